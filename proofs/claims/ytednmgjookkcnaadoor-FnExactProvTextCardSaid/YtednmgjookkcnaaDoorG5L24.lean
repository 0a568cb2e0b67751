/- Facts of the program: sizes, zero values and fields of its types. -/
import Derived.Test.YtednmgjookkcnaaDoorProg
import Derived.Test.YtednmgjookkcnaaDoorGW3
import Derived.KernelRfl
import Derived.Lib.ItoaNum
import Derived.Test.YtednmgjookkcnaaDoorGW4
import Derived.Lib.Join
namespace Go.VC.F
open Go Go.VC
open Go.Proofs
theorem sz3 : szOf Tryd.prog 3 = some 1 := by kernel_rfl
theorem co3 : Program.cellsOf Tryd.prog 3 = 1 := by kernel_rfl
theorem ag3 : aggB Tryd.prog 3 = false := by kernel_rfl
theorem zv3 : wpO.zvOf Tryd.prog 3 = some [.int .i64 0] := by kernel_rfl
theorem un3 : Tryd.prog.underlying 3 = some (.int .i64) := by kernel_rfl
theorem sz4 : szOf Tryd.prog 4 = some 1 := by kernel_rfl
theorem ag4 : aggB Tryd.prog 4 = false := by kernel_rfl
theorem zv4 : wpO.zvOf Tryd.prog 4 = some [.bool false] := by kernel_rfl
theorem un4 : Tryd.prog.underlying 4 = some .bool := by kernel_rfl
theorem sz5 : szOf Tryd.prog 5 = some 1 := by kernel_rfl
theorem ag5 : aggB Tryd.prog 5 = false := by kernel_rfl
theorem zv5 : wpO.zvOf Tryd.prog 5 = some [.int .u8 0] := by kernel_rfl
theorem un5 : Tryd.prog.underlying 5 = some (.int .u8) := by kernel_rfl
theorem sz9 : szOf Tryd.prog 9 = some 1 := by kernel_rfl
theorem co9 : Program.cellsOf Tryd.prog 9 = 1 := by kernel_rfl
theorem by9 : Program.bytesOf Tryd.prog 9 = 16 := by kernel_rfl
theorem ag9 : aggB Tryd.prog 9 = false := by kernel_rfl
theorem zv9 : wpO.zvOf Tryd.prog 9 = some [.string ⟨#[]⟩] := by kernel_rfl
theorem un9 : Tryd.prog.underlying 9 = some .string := by kernel_rfl
theorem sz30 : szOf Tryd.prog 30 = some 1 := by kernel_rfl
theorem co30 : Program.cellsOf Tryd.prog 30 = 1 := by kernel_rfl
theorem ag30 : aggB Tryd.prog 30 = false := by kernel_rfl
theorem zv30 : wpO.zvOf Tryd.prog 30 = some [.slice none 0 0] := by kernel_rfl
theorem sb30 : slB Tryd.prog 30 = true := by kernel_rfl
theorem un30 : Tryd.prog.underlying 30 = some (.slice 75) := by kernel_rfl
theorem el30 : elOf Tryd.prog 30 = some (75, 2) := by kernel_rfl
theorem ap30 : apOf Tryd.prog 30 = some (75, 2, 32, [.int .i64 0, .slice none 0 0]) := by kernel_rfl
theorem sz32 : szOf Tryd.prog 32 = some 1 := by kernel_rfl
theorem co32 : Program.cellsOf Tryd.prog 32 = 1 := by kernel_rfl
theorem ag32 : aggB Tryd.prog 32 = true := by kernel_rfl
theorem zv32 : wpO.zvOf Tryd.prog 32 = some [.slice none 0 0] := by kernel_rfl
theorem st32 : strOf Tryd.prog 32 = some [(30, 0)] := by kernel_rfl
theorem fl32_0 : fldOf Tryd.prog 32 0 = some (0, 30) := by kernel_rfl
theorem pl32 : plOf Tryd.prog 32 = some ([(0, 1)], [.slice none 0 0]) := by kernel_rfl
theorem sz35 : szOf Tryd.prog 35 = some 1 := by kernel_rfl
theorem ag35 : aggB Tryd.prog 35 = false := by kernel_rfl
theorem zv35 : wpO.zvOf Tryd.prog 35 = some [.slice none 0 0] := by kernel_rfl
theorem sb35 : slB Tryd.prog 35 = true := by kernel_rfl
theorem un35 : Tryd.prog.underlying 35 = some (.slice 53) := by kernel_rfl
theorem el35 : elOf Tryd.prog 35 = some (53, 2) := by kernel_rfl
theorem ap35 : apOf Tryd.prog 35 = some (53, 2, 32, [.int .i64 0, .slice none 0 0]) := by kernel_rfl
theorem sz37 : szOf Tryd.prog 37 = some 1 := by kernel_rfl
theorem ag37 : aggB Tryd.prog 37 = true := by kernel_rfl
theorem zv37 : wpO.zvOf Tryd.prog 37 = some [.slice none 0 0] := by kernel_rfl
theorem fl37_0 : fldOf Tryd.prog 37 0 = some (0, 35) := by kernel_rfl
theorem pl37 : plOf Tryd.prog 37 = some ([(0, 1)], [.slice none 0 0]) := by kernel_rfl
theorem sz41 : szOf Tryd.prog 41 = some 1 := by kernel_rfl
theorem ag41 : aggB Tryd.prog 41 = false := by kernel_rfl
theorem zv41 : wpO.zvOf Tryd.prog 41 = some [.slice none 0 0] := by kernel_rfl
theorem sb41 : slB Tryd.prog 41 = true := by kernel_rfl
theorem un41 : Tryd.prog.underlying 41 = some (.slice 64) := by kernel_rfl
theorem el41 : elOf Tryd.prog 41 = some (64, 5) := by kernel_rfl
theorem ap41 : apOf Tryd.prog 41 = some (64, 5, 88, [.int .i64 0, .int .i64 0, .slice none 0 0, .slice none 0 0, .slice none 0 0]) := by kernel_rfl
theorem sz44 : szOf Tryd.prog 44 = some 1 := by kernel_rfl
theorem ag44 : aggB Tryd.prog 44 = false := by kernel_rfl
theorem zv44 : wpO.zvOf Tryd.prog 44 = some [.slice none 0 0] := by kernel_rfl
theorem sb44 : slB Tryd.prog 44 = true := by kernel_rfl
theorem un44 : Tryd.prog.underlying 44 = some (.slice 70) := by kernel_rfl
theorem el44 : elOf Tryd.prog 44 = some (70, 5) := by kernel_rfl
theorem ap44 : apOf Tryd.prog 44 = some (70, 5, 88, [.int .i64 0, .int .i64 0, .slice none 0 0, .slice none 0 0, .slice none 0 0]) := by kernel_rfl
theorem sz51 : szOf Tryd.prog 51 = some 1 := by kernel_rfl
theorem co51 : Program.cellsOf Tryd.prog 51 = 1 := by kernel_rfl
theorem ag51 : aggB Tryd.prog 51 = false := by kernel_rfl
theorem zv51 : wpO.zvOf Tryd.prog 51 = some [.slice none 0 0] := by kernel_rfl
theorem sb51 : slB Tryd.prog 51 = true := by kernel_rfl
theorem un51 : Tryd.prog.underlying 51 = some (.slice 9) := by kernel_rfl
theorem el51 : elOf Tryd.prog 51 = some (9, 1) := by kernel_rfl
theorem ap51 : apOf Tryd.prog 51 = some (9, 1, 16, [.string ⟨#[]⟩]) := by kernel_rfl
theorem sz53 : szOf Tryd.prog 53 = some 2 := by kernel_rfl
theorem ag53 : aggB Tryd.prog 53 = true := by kernel_rfl
theorem zv53 : wpO.zvOf Tryd.prog 53 = some [.int .i64 0, .slice none 0 0] := by kernel_rfl
theorem fl53_0 : fldOf Tryd.prog 53 0 = some (0, 3) := by kernel_rfl
theorem fl53_1 : fldOf Tryd.prog 53 1 = some (1, 51) := by kernel_rfl
theorem pl53 : plOf Tryd.prog 53 = some ([(0, 1), (1, 1)], [.int .i64 0, .slice none 0 0]) := by kernel_rfl
theorem sz60 : szOf Tryd.prog 60 = some 1 := by kernel_rfl
theorem co60 : Program.cellsOf Tryd.prog 60 = 1 := by kernel_rfl
theorem ag60 : aggB Tryd.prog 60 = false := by kernel_rfl
theorem zv60 : wpO.zvOf Tryd.prog 60 = some [.slice none 0 0] := by kernel_rfl
theorem sb60 : slB Tryd.prog 60 = true := by kernel_rfl
theorem un60 : Tryd.prog.underlying 60 = some (.slice 62) := by kernel_rfl
theorem el60 : elOf Tryd.prog 60 = some (62, 4) := by kernel_rfl
theorem ap60 : apOf Tryd.prog 60 = some (62, 4, 64, [.int .i64 0, .int .i64 0, .slice none 0 0, .slice none 0 0]) := by kernel_rfl
theorem sz62 : szOf Tryd.prog 62 = some 4 := by kernel_rfl
theorem co62 : Program.cellsOf Tryd.prog 62 = 4 := by kernel_rfl
theorem by62 : Program.bytesOf Tryd.prog 62 = 64 := by kernel_rfl
theorem ag62 : aggB Tryd.prog 62 = true := by kernel_rfl
theorem zv62 : wpO.zvOf Tryd.prog 62 = some [.int .i64 0, .int .i64 0, .slice none 0 0, .slice none 0 0] := by kernel_rfl
theorem st62 : strOf Tryd.prog 62 = some [(3, 0), (3, 1), (51, 2), (60, 3)] := by kernel_rfl
theorem fl62_0 : fldOf Tryd.prog 62 0 = some (0, 3) := by kernel_rfl
theorem fl62_1 : fldOf Tryd.prog 62 1 = some (1, 3) := by kernel_rfl
theorem fl62_2 : fldOf Tryd.prog 62 2 = some (2, 51) := by kernel_rfl
theorem fl62_3 : fldOf Tryd.prog 62 3 = some (3, 60) := by kernel_rfl
theorem pl62 : plOf Tryd.prog 62 = some ([(0, 1), (1, 1), (2, 1), (3, 1)], [.int .i64 0, .int .i64 0, .slice none 0 0, .slice none 0 0]) := by kernel_rfl
theorem sz64 : szOf Tryd.prog 64 = some 5 := by kernel_rfl
theorem co64 : Program.cellsOf Tryd.prog 64 = 5 := by kernel_rfl
theorem by64 : Program.bytesOf Tryd.prog 64 = 88 := by kernel_rfl
theorem ag64 : aggB Tryd.prog 64 = true := by kernel_rfl
theorem zv64 : wpO.zvOf Tryd.prog 64 = some [.int .i64 0, .int .i64 0, .slice none 0 0, .slice none 0 0, .slice none 0 0] := by kernel_rfl
theorem st64 : strOf Tryd.prog 64 = some [(62, 0), (32, 4)] := by kernel_rfl
theorem fl64_0 : fldOf Tryd.prog 64 0 = some (0, 62) := by kernel_rfl
theorem fl64_1 : fldOf Tryd.prog 64 1 = some (4, 32) := by kernel_rfl
theorem pl64 : plOf Tryd.prog 64 = some ([(0, 4), (4, 1)], [.int .i64 0, .int .i64 0, .slice none 0 0, .slice none 0 0, .slice none 0 0]) := by kernel_rfl
theorem sz66 : szOf Tryd.prog 66 = some 1 := by kernel_rfl
theorem ag66 : aggB Tryd.prog 66 = false := by kernel_rfl
theorem zv66 : wpO.zvOf Tryd.prog 66 = some [.slice none 0 0] := by kernel_rfl
theorem sb66 : slB Tryd.prog 66 = true := by kernel_rfl
theorem un66 : Tryd.prog.underlying 66 = some (.slice 68) := by kernel_rfl
theorem el66 : elOf Tryd.prog 66 = some (68, 4) := by kernel_rfl
theorem ap66 : apOf Tryd.prog 66 = some (68, 4, 64, [.int .i64 0, .int .i64 0, .slice none 0 0, .slice none 0 0]) := by kernel_rfl
theorem sz68 : szOf Tryd.prog 68 = some 4 := by kernel_rfl
theorem ag68 : aggB Tryd.prog 68 = true := by kernel_rfl
theorem zv68 : wpO.zvOf Tryd.prog 68 = some [.int .i64 0, .int .i64 0, .slice none 0 0, .slice none 0 0] := by kernel_rfl
theorem fl68_0 : fldOf Tryd.prog 68 0 = some (0, 3) := by kernel_rfl
theorem fl68_1 : fldOf Tryd.prog 68 1 = some (1, 3) := by kernel_rfl
theorem fl68_2 : fldOf Tryd.prog 68 2 = some (2, 51) := by kernel_rfl
theorem fl68_3 : fldOf Tryd.prog 68 3 = some (3, 66) := by kernel_rfl
theorem pl68 : plOf Tryd.prog 68 = some ([(0, 1), (1, 1), (2, 1), (3, 1)], [.int .i64 0, .int .i64 0, .slice none 0 0, .slice none 0 0]) := by kernel_rfl
theorem sz70 : szOf Tryd.prog 70 = some 5 := by kernel_rfl
theorem ag70 : aggB Tryd.prog 70 = true := by kernel_rfl
theorem zv70 : wpO.zvOf Tryd.prog 70 = some [.int .i64 0, .int .i64 0, .slice none 0 0, .slice none 0 0, .slice none 0 0] := by kernel_rfl
theorem fl70_0 : fldOf Tryd.prog 70 0 = some (0, 68) := by kernel_rfl
theorem fl70_1 : fldOf Tryd.prog 70 1 = some (4, 37) := by kernel_rfl
theorem pl70 : plOf Tryd.prog 70 = some ([(0, 4), (4, 1)], [.int .i64 0, .int .i64 0, .slice none 0 0, .slice none 0 0, .slice none 0 0]) := by kernel_rfl
theorem sz73 : szOf Tryd.prog 73 = some 1 := by kernel_rfl
theorem ag73 : aggB Tryd.prog 73 = false := by kernel_rfl
theorem zv73 : wpO.zvOf Tryd.prog 73 = some [.slice none 0 0] := by kernel_rfl
theorem sb73 : slB Tryd.prog 73 = true := by kernel_rfl
theorem un73 : Tryd.prog.underlying 73 = some (.slice 5) := by kernel_rfl
theorem el73 : elOf Tryd.prog 73 = some (5, 1) := by kernel_rfl
theorem ap73 : apOf Tryd.prog 73 = some (5, 1, 1, [.int .u8 0]) := by kernel_rfl
theorem sz75 : szOf Tryd.prog 75 = some 2 := by kernel_rfl
theorem co75 : Program.cellsOf Tryd.prog 75 = 2 := by kernel_rfl
theorem by75 : Program.bytesOf Tryd.prog 75 = 32 := by kernel_rfl
theorem ag75 : aggB Tryd.prog 75 = true := by kernel_rfl
theorem zv75 : wpO.zvOf Tryd.prog 75 = some [.int .i64 0, .slice none 0 0] := by kernel_rfl
theorem st75 : strOf Tryd.prog 75 = some [(3, 0), (51, 1)] := by kernel_rfl
theorem fl75_0 : fldOf Tryd.prog 75 0 = some (0, 3) := by kernel_rfl
theorem fl75_1 : fldOf Tryd.prog 75 1 = some (1, 51) := by kernel_rfl
theorem pl75 : plOf Tryd.prog 75 = some ([(0, 1), (1, 1)], [.int .i64 0, .slice none 0 0]) := by kernel_rfl
theorem sz95 : szOf Tryd.prog 95 = some 1 := by kernel_rfl
theorem ag95 : aggB Tryd.prog 95 = false := by kernel_rfl
theorem zv95 : wpO.zvOf Tryd.prog 95 = some [.pointer none] := by kernel_rfl
theorem un95 : Tryd.prog.underlying 95 = some (.pointer 68) := by kernel_rfl
theorem sz114 : szOf Tryd.prog 114 = some 1 := by kernel_rfl
theorem ag114 : aggB Tryd.prog 114 = false := by kernel_rfl
theorem zv114 : wpO.zvOf Tryd.prog 114 = some [.nilFunc] := by kernel_rfl
theorem okf7 : fnOk Tryd.prog 7 = true := by kernel_rfl
theorem okf8 : fnOk Tryd.prog 8 = true := by kernel_rfl
theorem okf12 : fnOk Tryd.prog 12 = true := by kernel_rfl
theorem okf13 : fnOk Tryd.prog 13 = true := by kernel_rfl
theorem okf14 : fnOk Tryd.prog 14 = true := by kernel_rfl
theorem okf15 : fnOk Tryd.prog 15 = true := by kernel_rfl
theorem okf16 : fnOk Tryd.prog 16 = true := by kernel_rfl
theorem okf17 : fnOk Tryd.prog 17 = true := by kernel_rfl
theorem okf18 : fnOk Tryd.prog 18 = true := by kernel_rfl
theorem okf19 : fnOk Tryd.prog 19 = true := by kernel_rfl
theorem okf20 : fnOk Tryd.prog 20 = true := by kernel_rfl
theorem okf21 : fnOk Tryd.prog 21 = true := by kernel_rfl
theorem okf22 : fnOk Tryd.prog 22 = true := by kernel_rfl
theorem okf23 : fnOk Tryd.prog 23 = true := by kernel_rfl
theorem okf24 : fnOk Tryd.prog 24 = true := by kernel_rfl
theorem okf25 : fnOk Tryd.prog 25 = true := by kernel_rfl
theorem okf26 : fnOk Tryd.prog 26 = true := by kernel_rfl
theorem okf27 : fnOk Tryd.prog 27 = true := by kernel_rfl
theorem okf28 : fnOk Tryd.prog 28 = true := by kernel_rfl
theorem okf29 : fnOk Tryd.prog 29 = true := by kernel_rfl
theorem okf30 : fnOk Tryd.prog 30 = true := by kernel_rfl
theorem okf31 : fnOk Tryd.prog 31 = true := by kernel_rfl
theorem okf32 : fnOk Tryd.prog 32 = true := by kernel_rfl
theorem okf33 : fnOk Tryd.prog 33 = true := by kernel_rfl
theorem okf34 : fnOk Tryd.prog 34 = true := by kernel_rfl
theorem okf35 : fnOk Tryd.prog 35 = true := by kernel_rfl
theorem okf36 : fnOk Tryd.prog 36 = true := by kernel_rfl
theorem okf37 : fnOk Tryd.prog 37 = true := by kernel_rfl
theorem okf38 : fnOk Tryd.prog 38 = true := by kernel_rfl
theorem okf39 : fnOk Tryd.prog 39 = true := by kernel_rfl
theorem okf40 : fnOk Tryd.prog 40 = true := by kernel_rfl
theorem okf41 : fnOk Tryd.prog 41 = true := by kernel_rfl
theorem okf42 : fnOk Tryd.prog 42 = true := by kernel_rfl
theorem okf43 : fnOk Tryd.prog 43 = true := by kernel_rfl
theorem okf44 : fnOk Tryd.prog 44 = true := by kernel_rfl
theorem okf50 : fnOk Tryd.prog 50 = true := by kernel_rfl
theorem okf51 : fnOk Tryd.prog 51 = true := by kernel_rfl
theorem okf52 : fnOk Tryd.prog 52 = true := by kernel_rfl
theorem okf53 : fnOk Tryd.prog 53 = true := by kernel_rfl
theorem okf54 : fnOk Tryd.prog 54 = true := by kernel_rfl
theorem okf55 : fnOk Tryd.prog 55 = true := by kernel_rfl
theorem okf56 : fnOk Tryd.prog 56 = true := by kernel_rfl
theorem okf57 : fnOk Tryd.prog 57 = true := by kernel_rfl
theorem okf59 : fnOk Tryd.prog 59 = true := by kernel_rfl
theorem okf60 : fnOk Tryd.prog 60 = true := by kernel_rfl
theorem okf61 : fnOk Tryd.prog 61 = true := by kernel_rfl
theorem okf62 : fnOk Tryd.prog 62 = true := by kernel_rfl
theorem okf63 : fnOk Tryd.prog 63 = true := by kernel_rfl
theorem okf64 : fnOk Tryd.prog 64 = true := by kernel_rfl
theorem okf65 : fnOk Tryd.prog 65 = true := by kernel_rfl
theorem okf66 : fnOk Tryd.prog 66 = true := by kernel_rfl
theorem okf70 : fnOk Tryd.prog 70 = true := by kernel_rfl
theorem okf71 : fnOk Tryd.prog 71 = true := by kernel_rfl
theorem okf72 : fnOk Tryd.prog 72 = true := by kernel_rfl
theorem okf73 : fnOk Tryd.prog 73 = true := by kernel_rfl
theorem okf74 : fnOk Tryd.prog 74 = true := by kernel_rfl
theorem okf75 : fnOk Tryd.prog 75 = true := by kernel_rfl
theorem okf76 : fnOk Tryd.prog 76 = true := by kernel_rfl
theorem okf77 : fnOk Tryd.prog 77 = true := by kernel_rfl
theorem okf78 : fnOk Tryd.prog 78 = true := by kernel_rfl
theorem okf80 : fnOk Tryd.prog 80 = true := by kernel_rfl
theorem okf81 : fnOk Tryd.prog 81 = true := by kernel_rfl
theorem okf82 : fnOk Tryd.prog 82 = true := by kernel_rfl
theorem okf86 : fnOk Tryd.prog 86 = true := by kernel_rfl
theorem okf87 : fnOk Tryd.prog 87 = true := by kernel_rfl
theorem okf88 : fnOk Tryd.prog 88 = true := by kernel_rfl
theorem okf93 : fnOk Tryd.prog 93 = true := by kernel_rfl
theorem okf94 : fnOk Tryd.prog 94 = true := by kernel_rfl
theorem okf95 : fnOk Tryd.prog 95 = true := by kernel_rfl
theorem okf96 : fnOk Tryd.prog 96 = true := by kernel_rfl
theorem okf97 : fnOk Tryd.prog 97 = true := by kernel_rfl
theorem okf98 : fnOk Tryd.prog 98 = true := by kernel_rfl
theorem okf104 : fnOk Tryd.prog 104 = true := by kernel_rfl
theorem okf105 : fnOk Tryd.prog 105 = true := by kernel_rfl
theorem okf106 : fnOk Tryd.prog 106 = true := by kernel_rfl
theorem mixed : Tryd.prog.follows .mixedOrders = true := by kernel_rfl
end Go.VC.F
/- The data of the program, as trees. -/
namespace Go.VC
open Go
/-- A type. -/
inductive Ty where
  | mk (kind : Int) (labels : List ByteArray) (args : List Ty)
  deriving Inhabited
def Ty.kind : Ty → Int | .mk k _ _ => k
def Ty.labels : Ty → List ByteArray | .mk _ l _ => l
def Ty.args : Ty → List Ty | .mk _ _ a => a
mutual
def eTy : Ty → List IV
  | .mk k l a => [.sc (.int .i64 k), slI eS l, .sl a.length (eTyL a)]
def eTyL : List Ty → List IV
  | [] => []
  | t :: r => eTy t ++ eTyL r
end
theorem eTyL_eq : ∀ (l : List Ty), eTyL l = l.flatMap eTy
  | [] => rfl
  | t :: r => by rw [eTyL, eTyL_eq r, List.flatMap_cons]
theorem eTy_eta (t : Ty) : eTy t = [.sc (.int .i64 t.kind), slI eS t.labels, slI eTy t.args] := by
  cases t with
  | mk k l a => rw [eTy, eTyL_eq]; rfl
instance : Wid eTy 3 := ⟨fun t => by rw [eTy_eta]; rfl⟩
/-- A value. -/
inductive Val where
  | mk (kind n : Int) (labels : List ByteArray) (args : List Val)
  deriving Inhabited
def Val.kind : Val → Int | .mk k _ _ _ => k
def Val.n : Val → Int | .mk _ n _ _ => n
def Val.labels : Val → List ByteArray | .mk _ _ l _ => l
def Val.args : Val → List Val | .mk _ _ _ a => a
mutual
def eVal : Val → List IV
  | .mk k n l a => [.sc (.int .i64 k), .sc (.int .i64 n), slI eS l, .sl a.length (eValL a)]
def eValL : List Val → List IV
  | [] => []
  | t :: r => eVal t ++ eValL r
end
theorem eValL_eq : ∀ (l : List Val), eValL l = l.flatMap eVal
  | [] => rfl
  | t :: r => by rw [eValL, eValL_eq r, List.flatMap_cons]
theorem eVal_eta (t : Val) : eVal t = [.sc (.int .i64 t.kind), .sc (.int .i64 t.n), slI eS t.labels, slI eVal t.args] := by
  cases t with
  | mk k n l a => rw [eVal, eValL_eq]; rfl
instance : Wid eVal 4 := ⟨fun t => by rw [eVal_eta]; rfl⟩
/-- A term. -/
inductive Tm where
  | mk (kind : Int) (name : ByteArray) (n : Int) (ty : Ty) (labels : List ByteArray) (args : List Tm)
  deriving Inhabited
def Tm.kind : Tm → Int | .mk k _ _ _ _ _ => k
def Tm.name : Tm → ByteArray | .mk _ s _ _ _ _ => s
def Tm.n : Tm → Int | .mk _ _ n _ _ _ => n
def Tm.ty : Tm → Ty | .mk _ _ _ t _ _ => t
def Tm.labels : Tm → List ByteArray | .mk _ _ _ _ l _ => l
def Tm.args : Tm → List Tm | .mk _ _ _ _ _ a => a
mutual
def eTm : Tm → List IV
  | .mk k s n t l a => [.sc (.int .i64 k), .sc (.string s), .sc (.int .i64 n), .sc (.int .i64 t.kind), slI eS t.labels, slI eTy t.args, slI eS l, .sl a.length (eTmL a)]
def eTmL : List Tm → List IV
  | [] => []
  | t :: r => eTm t ++ eTmL r
end
theorem eTmL_eq : ∀ (l : List Tm), eTmL l = l.flatMap eTm
  | [] => rfl
  | t :: r => by rw [eTmL, eTmL_eq r, List.flatMap_cons]
theorem eTm_eta (t : Tm) : eTm t = [.sc (.int .i64 t.kind), .sc (.string t.name), .sc (.int .i64 t.n), .sc (.int .i64 t.ty.kind), slI eS t.ty.labels, slI eTy t.ty.args, slI eS t.labels, slI eTm t.args] := by
  cases t with
  | mk k s n t l a => rw [eTm, eTmL_eq]; rfl
instance : Wid eTm 8 := ⟨fun t => by rw [eTm_eta]; rfl⟩
/-- A plan. -/
inductive Pl where
  | mk (kind : Int) (var table : ByteArray) (cond : Tm) (keys : List Tm) (args : List Pl)
  deriving Inhabited
def Pl.kind : Pl → Int | .mk k _ _ _ _ _ => k
def Pl.var : Pl → ByteArray | .mk _ s _ _ _ _ => s
def Pl.table : Pl → ByteArray | .mk _ _ s _ _ _ => s
def Pl.cond : Pl → Tm | .mk _ _ _ t _ _ => t
def Pl.keys : Pl → List Tm | .mk _ _ _ _ l _ => l
def Pl.args : Pl → List Pl | .mk _ _ _ _ _ a => a
mutual
def ePl : Pl → List IV
  | .mk k s u t l a => [.sc (.int .i64 k), .sc (.string s), .sc (.string u)] ++ eTm t ++ [slI eTm l, .sl a.length (ePlL a)]
def ePlL : List Pl → List IV
  | [] => []
  | t :: r => ePl t ++ ePlL r
end
theorem ePlL_eq : ∀ (l : List Pl), ePlL l = l.flatMap ePl
  | [] => rfl
  | t :: r => by rw [ePlL, ePlL_eq r, List.flatMap_cons]
theorem ePl_eta (t : Pl) : ePl t = [.sc (.int .i64 t.kind), .sc (.string t.var), .sc (.string t.table), .sc (.int .i64 t.cond.kind), .sc (.string t.cond.name), .sc (.int .i64 t.cond.n), .sc (.int .i64 t.cond.ty.kind), slI eS t.cond.ty.labels, slI eTy t.cond.ty.args, slI eS t.cond.labels, slI eTm t.cond.args, slI eTm t.keys, slI ePl t.args] := by
  cases t with
  | mk k s u t l a => rw [ePl, ePlL_eq, eTm_eta]; rfl
instance : Wid ePl 13 := ⟨fun t => by rw [ePl_eta]; rfl⟩
/-- Products; polynomials are lists of them. -/
structure Mono where
  coef : Int
  vars : List ByteArray
def eMono (a : Mono) : List IV := [.sc (.int .i64 a.coef), slI eS a.vars]
instance : Wid eMono 2 := ⟨fun _ => rfl⟩
structure Ann where
  value : Val
  poly : List Mono
def eAnn (a : Ann) : List IV := eVal a.value ++ [slI eMono a.poly]
theorem eAnn_eta (a : Ann) : eAnn a = [.sc (.int .i64 a.value.kind), .sc (.int .i64 a.value.n), slI eS a.value.labels, slI eVal a.value.args, slI eMono a.poly] := by rw [eAnn, eVal_eta]; rfl
instance : Wid eAnn 5 := ⟨fun t => by rw [eAnn_eta]; rfl⟩
structure Decl where
  name : ByteArray
  row : Ty
def eDecl (a : Decl) : List IV := .sc (.string a.name) :: eTy a.row
theorem eDecl_eta (a : Decl) : eDecl a = [.sc (.string a.name), .sc (.int .i64 a.row.kind), slI eS a.row.labels, slI eTy a.row.args] := by rw [eDecl, eTy_eta]
instance : Wid eDecl 4 := ⟨fun t => by rw [eDecl_eta]; rfl⟩
structure TData where
  name : ByteArray
  rows : List Val
def eTData (a : TData) : List IV := [.sc (.string a.name), slI eVal a.rows]
instance : Wid eTData 2 := ⟨fun _ => rfl⟩
structure Gn where
  var : ByteArray
  table : ByteArray
def eGn (a : Gn) : List IV := [.sc (.string a.var), .sc (.string a.table)]
instance : Wid eGn 2 := ⟨fun _ => rfl⟩
structure Vw where
  table : ByteArray
  cond : Tm
  cols : List ByteArray
  key : ByteArray
def eVw (a : Vw) : List IV := .sc (.string a.table) :: (eTm a.cond ++ [slI eS a.cols, .sc (.string a.key)])
theorem eVw_eta (a : Vw) : eVw a = [.sc (.string a.table), .sc (.int .i64 a.cond.kind), .sc (.string a.cond.name), .sc (.int .i64 a.cond.n), .sc (.int .i64 a.cond.ty.kind), slI eS a.cond.ty.labels, slI eTy a.cond.ty.args, slI eS a.cond.labels, slI eTm a.cond.args, slI eS a.cols, .sc (.string a.key)] := by rw [eVw, eTm_eta]; rfl
instance : Wid eVw 11 := ⟨fun t => by rw [eVw_eta]; rfl⟩
end Go.VC
/- How much a datum counts, when it is measured: no statement of a program. -/
set_option linter.unusedSimpArgs false
set_option linter.unusedVariables false
namespace Go.VC
open Go
/-- What is left after taking. -/
def szR (n : Nat) (left : Int) : Int := if (n : Int) ≤ left then left - n else -1
theorem szR_add (n m : Nat) (l : Int) : szR m (szR n l) = szR (n + m) l := by
  unfold szR
  split <;> split <;> split <;> omega
theorem szR_le {n : Nat} {l : Int} (h : 0 ≤ l) : -1 ≤ szR n l ∧ szR n l ≤ l := by unfold szR; split <;> omega
theorem szR_sub {n : Nat} {l : Int} (h : 0 ≤ l - n) : l - n = szR n l := by unfold szR; rw [if_pos (by omega)]
theorem szR_neg {n m : Nat} {l : Int} (h : szR n l < 0) (hm : n ≤ m) : szR m l = -1 := by unfold szR at h ⊢; split at h <;> split <;> omega
theorem szR_nil {n m : Nat} {l : Int} (h : l - n < 0) (hm : n ≤ m) : szR m l = -1 := by unfold szR; split <;> omega
theorem szR_fits {n : Nat} {l : Int} (h : 0 ≤ szR n l) : (n : Int) ≤ l := by unfold szR at h; split at h <;> omega
theorem szR_spec (n : Nat) (l : Int) : ((n : Int) ≤ l ∧ szR n l = l - n) ∨ (l < n ∧ szR n l = -1) := by unfold szR; split <;> omega
def zL {α : Type} (z : α → Nat) (l : List α) : Nat := l.length + (l.map z).sum
def zT {α : Type} (z : α → Nat) (l : List α) (i : Nat) : Nat := l.length + ((l.take i).map z).sum
theorem zT_zero {α : Type} {z : α → Nat} {l : List α} : zT z l 0 = l.length := by simp [zT]
theorem zT_all {α : Type} {z : α → Nat} {l : List α} {i : Nat} (h : l.length ≤ i) : zT z l i = zL z l := by rw [zT, List.take_of_length_le h, zL]
theorem zT_succ {α : Type} {z : α → Nat} {l : List α} {i : Nat} (h : i < l.length) : zT z l (i + 1) = zT z l i + z l[i] := by
  rw [zT, zT, List.take_succ_eq_append_getElem h, List.map_append, List.sum_append]; simp; omega
theorem sum_take_le {α : Type} {z : α → Nat} : ∀ {l : List α} {i : Nat}, ((l.take i).map z).sum ≤ (l.map z).sum
  | [], i => by simp
  | a :: r, 0 => by simp
  | a :: r, i + 1 => by
    have := sum_take_le (z := z) (l := r) (i := i)
    simp only [List.take_succ_cons, List.map_cons, List.sum_cons]; omega
theorem zT_le {α : Type} {z : α → Nat} {l : List α} {i : Nat} : zT z l i ≤ zL z l := by unfold zT zL; have := sum_take_le (z := z) (l := l) (i := i); omega
theorem zL_len {α : Type} {z : α → Nat} {l : List α} : l.length ≤ zL z l := by unfold zL; omega
theorem zL_mem {α : Type} {z : α → Nat} {l : List α} {x : α} (h : x ∈ l) : z x ≤ zL z l := by
  unfold zL
  induction l with
  | nil => cases h
  | cons a r ih =>
    rcases List.mem_cons.1 h with rfl | h
    · simp only [List.map_cons, List.sum_cons]; omega
    · have := ih h; simp only [List.map_cons, List.sum_cons, List.length_cons] at *; omega
def zS (s : ByteArray) : Nat := s.size
abbrev zSL (l : List ByteArray) : Nat := zL zS l
def okS (b : Nat) (s : ByteArray) : Prop := s.size ≤ b
def ok64 (n : Int) : Prop := -9223372036854775808 ≤ n ∧ n ≤ 9223372036854775807
def okLs {α : Type} (b : Nat) (ok : Nat → α → Prop) (l : List α) : Prop := l.length ≤ b ∧ ∀ s ∈ l, ok b s
theorem okI_int {b : Nat} {n : Int} : okI b (.sc (.int .i64 n)) ↔ ok64 n := by simp [okI, okV, ok64, IntKind.min, IntKind.max, IntKind.signed, IntKind.bits]
theorem okI_str {b : Nat} {s : ByteArray} : okI b (.sc (.string s)) ↔ okS b s := by simp [okI, okV, okS]
theorem okI_L {b : Nat} {α : Type} {E : α → List IV} {l : List α} : okI b (slI E l) ↔ okLs b (fun b t => okL b (E t)) l := by simp [okI_slI, okLs]
theorem okL_nil {b : Nat} : okL b [] ↔ True := by simp [okL]
theorem okL_cons {b : Nat} {x : IV} {r : List IV} : okL b (x :: r) ↔ okI b x ∧ okL b r := by simp [okL]
theorem okS_fn : (fun b s => okL b (eS s)) = okS := by funext b s; simp [eS, okL_cons, okL_nil, okI_str]
theorem mI_int {n : Int} {k : IntKind} : mI (.sc (.int k n)) = 0 := by simp [mI, mV]
theorem mI_str {s : ByteArray} : mI (.sc (.string s)) = zS s := by simp [mI, mV, zS]
theorem mI_L {α : Type} {E : α → List IV} {l : List α} : mI (slI E l) = zL (fun x => mL (E x)) l := by rw [mI_slI, zL]
theorem mL_nil : mL [] = 0 := by simp [mL]
theorem mL_cons {x : IV} {r : List IV} : mL (x :: r) = mI x + mL r := by simp [mL]
theorem mS_fn : (fun s => mL (eS s)) = zS := by funext s; simp [eS, mL_cons, mL_nil, mI_str]
theorem okLs_at {α : Type} {b : Nat} {ok : Nat → α → Prop} {l : List α} (h : okLs b ok l) {i : Nat} (hi : i < l.length) : ok b l[i] := h.2 _ (List.getElem_mem hi)
def okTy (b : Nat) (t : Ty) : Prop := okL b (eTy t)
theorem okTy_fn : (fun b t => okL b (eTy t)) = okTy := rfl
def zTy (t : Ty) : Nat := mL (eTy t)
theorem mTy_fn : (fun t => mL (eTy t)) = zTy := rfl
theorem okTy_down {B b : Nat} {t : Ty} (h : okTy B t) (g : zTy t ≤ b) : okTy b t := okL_down h g
theorem okTy_iff {b : Nat} {t : Ty} : okTy b t ↔ ok64 t.kind ∧ okLs b okS t.labels ∧ okLs b okTy t.args := by
  conv => lhs; unfold okTy
  rw [eTy_eta]; simp only [okL_cons, okL_nil, okI_int, okI_str, okI_L, okS_fn, okTy_fn, and_true, and_assoc]
theorem zTy_eta (t : Ty) : zTy t = zSL t.labels + zL zTy t.args := by
  conv => lhs; unfold zTy
  rw [eTy_eta]; simp only [mL_cons, mL_nil, mI_int, mI_str, mI_L, mS_fn, mTy_fn, zSL, Nat.zero_add, Nat.add_zero, Nat.add_assoc]
def okVal (b : Nat) (t : Val) : Prop := okL b (eVal t)
theorem okVal_fn : (fun b t => okL b (eVal t)) = okVal := rfl
def zVal (t : Val) : Nat := mL (eVal t)
theorem mVal_fn : (fun t => mL (eVal t)) = zVal := rfl
theorem okVal_down {B b : Nat} {t : Val} (h : okVal B t) (g : zVal t ≤ b) : okVal b t := okL_down h g
theorem okVal_iff {b : Nat} {t : Val} : okVal b t ↔ ok64 t.kind ∧ ok64 t.n ∧ okLs b okS t.labels ∧ okLs b okVal t.args := by
  conv => lhs; unfold okVal
  rw [eVal_eta]; simp only [okL_cons, okL_nil, okI_int, okI_str, okI_L, okS_fn, okTy_fn, okVal_fn, and_true, and_assoc]
theorem zVal_eta (t : Val) : zVal t = zSL t.labels + zL zVal t.args := by
  conv => lhs; unfold zVal
  rw [eVal_eta]; simp only [mL_cons, mL_nil, mI_int, mI_str, mI_L, mS_fn, mTy_fn, mVal_fn, zSL, Nat.zero_add, Nat.add_zero, Nat.add_assoc]
def okTm (b : Nat) (t : Tm) : Prop := okL b (eTm t)
theorem okTm_fn : (fun b t => okL b (eTm t)) = okTm := rfl
def zTm (t : Tm) : Nat := mL (eTm t)
theorem mTm_fn : (fun t => mL (eTm t)) = zTm := rfl
theorem okTm_down {B b : Nat} {t : Tm} (h : okTm B t) (g : zTm t ≤ b) : okTm b t := okL_down h g
theorem okTm_iff {b : Nat} {t : Tm} : okTm b t ↔ ok64 t.kind ∧ okS b t.name ∧ ok64 t.n ∧ okTy b t.ty ∧ okLs b okS t.labels ∧ okLs b okTm t.args := by
  conv => lhs; unfold okTm
  rw [eTm_eta, okTy_iff]; simp only [okL_cons, okL_nil, okI_int, okI_str, okI_L, okS_fn, okTy_fn, okVal_fn, okTm_fn, and_true, and_assoc]
theorem zTm_eta (t : Tm) : zTm t = zS t.name + zTy t.ty + zSL t.labels + zL zTm t.args := by
  conv => lhs; unfold zTm
  rw [eTm_eta, zTy_eta]; simp only [mL_cons, mL_nil, mI_int, mI_str, mI_L, mS_fn, mTy_fn, mVal_fn, mTm_fn, zSL, Nat.zero_add, Nat.add_zero, Nat.add_assoc]
def okPl (b : Nat) (t : Pl) : Prop := okL b (ePl t)
theorem okPl_fn : (fun b t => okL b (ePl t)) = okPl := rfl
def zPl (t : Pl) : Nat := mL (ePl t)
theorem mPl_fn : (fun t => mL (ePl t)) = zPl := rfl
theorem okPl_down {B b : Nat} {t : Pl} (h : okPl B t) (g : zPl t ≤ b) : okPl b t := okL_down h g
theorem okPl_iff {b : Nat} {t : Pl} : okPl b t ↔ ok64 t.kind ∧ okS b t.var ∧ okS b t.table ∧ okTm b t.cond ∧ okLs b okTm t.keys ∧ okLs b okPl t.args := by
  conv => lhs; unfold okPl
  rw [ePl_eta, okTm_iff, okTy_iff]; simp only [okL_cons, okL_nil, okI_int, okI_str, okI_L, okS_fn, okTy_fn, okVal_fn, okTm_fn, okPl_fn, and_true, and_assoc]
theorem zPl_eta (t : Pl) : zPl t = zS t.var + zS t.table + zTm t.cond + zL zTm t.keys + zL zPl t.args := by
  conv => lhs; unfold zPl
  rw [ePl_eta, zTm_eta, zTy_eta]; simp only [mL_cons, mL_nil, mI_int, mI_str, mI_L, mS_fn, mTy_fn, mVal_fn, mTm_fn, mPl_fn, zSL, Nat.zero_add, Nat.add_zero, Nat.add_assoc]
def okMono (b : Nat) (t : Mono) : Prop := okL b (eMono t)
theorem okMono_fn : (fun b t => okL b (eMono t)) = okMono := rfl
def zMono (t : Mono) : Nat := mL (eMono t)
theorem mMono_fn : (fun t => mL (eMono t)) = zMono := rfl
theorem okMono_down {B b : Nat} {t : Mono} (h : okMono B t) (g : zMono t ≤ b) : okMono b t := okL_down h g
theorem okMono_iff {b : Nat} {t : Mono} : okMono b t ↔ ok64 t.coef ∧ okLs b okS t.vars := by
  conv => lhs; unfold okMono
  rw [eMono]; simp only [okL_cons, okL_nil, okI_int, okI_str, okI_L, okS_fn, okTy_fn, okVal_fn, okTm_fn, okPl_fn, okMono_fn, and_true, and_assoc]
theorem zMono_eta (t : Mono) : zMono t = zSL t.vars := by
  conv => lhs; unfold zMono
  rw [eMono]; simp only [mL_cons, mL_nil, mI_int, mI_str, mI_L, mS_fn, mTy_fn, mVal_fn, mTm_fn, mPl_fn, mMono_fn, zSL, Nat.zero_add, Nat.add_zero, Nat.add_assoc]
def okAnn (b : Nat) (t : Ann) : Prop := okL b (eAnn t)
theorem okAnn_fn : (fun b t => okL b (eAnn t)) = okAnn := rfl
def zAnn (t : Ann) : Nat := mL (eAnn t)
theorem mAnn_fn : (fun t => mL (eAnn t)) = zAnn := rfl
theorem okAnn_down {B b : Nat} {t : Ann} (h : okAnn B t) (g : zAnn t ≤ b) : okAnn b t := okL_down h g
theorem okAnn_iff0 {b : Nat} {t : Ann} : okAnn b t ↔ okVal b t.value ∧ okLs b okMono t.poly := by
  conv => lhs; unfold okAnn
  rw [eAnn_eta, okVal_iff]; simp only [okL_cons, okL_nil, okI_int, okI_str, okI_L, okS_fn, okTy_fn, okVal_fn, okTm_fn, okPl_fn, okMono_fn, okAnn_fn, and_true, and_assoc]
theorem zAnn_eta0 (t : Ann) : zAnn t = zVal t.value + zL zMono t.poly := by
  conv => lhs; unfold zAnn
  rw [eAnn_eta, zVal_eta]; simp only [mL_cons, mL_nil, mI_int, mI_str, mI_L, mS_fn, mTy_fn, mVal_fn, mTm_fn, mPl_fn, mMono_fn, mAnn_fn, zSL, Nat.zero_add, Nat.add_zero, Nat.add_assoc]
def okDecl (b : Nat) (t : Decl) : Prop := okL b (eDecl t)
theorem okDecl_fn : (fun b t => okL b (eDecl t)) = okDecl := rfl
def zDecl (t : Decl) : Nat := mL (eDecl t)
theorem mDecl_fn : (fun t => mL (eDecl t)) = zDecl := rfl
theorem okDecl_down {B b : Nat} {t : Decl} (h : okDecl B t) (g : zDecl t ≤ b) : okDecl b t := okL_down h g
theorem okDecl_iff {b : Nat} {t : Decl} : okDecl b t ↔ okS b t.name ∧ okTy b t.row := by
  conv => lhs; unfold okDecl
  rw [eDecl_eta, okTy_iff]; simp only [okL_cons, okL_nil, okI_int, okI_str, okI_L, okS_fn, okTy_fn, okVal_fn, okTm_fn, okPl_fn, okMono_fn, okAnn_fn, okDecl_fn, and_true, and_assoc]
theorem zDecl_eta (t : Decl) : zDecl t = zS t.name + zTy t.row := by
  conv => lhs; unfold zDecl
  rw [eDecl_eta, zTy_eta]; simp only [mL_cons, mL_nil, mI_int, mI_str, mI_L, mS_fn, mTy_fn, mVal_fn, mTm_fn, mPl_fn, mMono_fn, mAnn_fn, mDecl_fn, zSL, Nat.zero_add, Nat.add_zero, Nat.add_assoc]
def okTData (b : Nat) (t : TData) : Prop := okL b (eTData t)
theorem okTData_fn : (fun b t => okL b (eTData t)) = okTData := rfl
def zTData (t : TData) : Nat := mL (eTData t)
theorem mTData_fn : (fun t => mL (eTData t)) = zTData := rfl
theorem okTData_down {B b : Nat} {t : TData} (h : okTData B t) (g : zTData t ≤ b) : okTData b t := okL_down h g
theorem okTData_iff {b : Nat} {t : TData} : okTData b t ↔ okS b t.name ∧ okLs b okVal t.rows := by
  conv => lhs; unfold okTData
  rw [eTData]; simp only [okL_cons, okL_nil, okI_int, okI_str, okI_L, okS_fn, okTy_fn, okVal_fn, okTm_fn, okPl_fn, okMono_fn, okAnn_fn, okDecl_fn, okTData_fn, and_true, and_assoc]
theorem zTData_eta (t : TData) : zTData t = zS t.name + zL zVal t.rows := by
  conv => lhs; unfold zTData
  rw [eTData]; simp only [mL_cons, mL_nil, mI_int, mI_str, mI_L, mS_fn, mTy_fn, mVal_fn, mTm_fn, mPl_fn, mMono_fn, mAnn_fn, mDecl_fn, mTData_fn, zSL, Nat.zero_add, Nat.add_zero, Nat.add_assoc]
def okGn (b : Nat) (t : Gn) : Prop := okL b (eGn t)
theorem okGn_fn : (fun b t => okL b (eGn t)) = okGn := rfl
def zGn (t : Gn) : Nat := mL (eGn t)
theorem mGn_fn : (fun t => mL (eGn t)) = zGn := rfl
theorem okGn_down {B b : Nat} {t : Gn} (h : okGn B t) (g : zGn t ≤ b) : okGn b t := okL_down h g
theorem okGn_iff {b : Nat} {t : Gn} : okGn b t ↔ okS b t.var ∧ okS b t.table := by
  conv => lhs; unfold okGn
  rw [eGn]; simp only [okL_cons, okL_nil, okI_int, okI_str, okI_L, okS_fn, okTy_fn, okVal_fn, okTm_fn, okPl_fn, okMono_fn, okAnn_fn, okDecl_fn, okTData_fn, okGn_fn, and_true, and_assoc]
theorem zGn_eta (t : Gn) : zGn t = zS t.var + zS t.table := by
  conv => lhs; unfold zGn
  rw [eGn]; simp only [mL_cons, mL_nil, mI_int, mI_str, mI_L, mS_fn, mTy_fn, mVal_fn, mTm_fn, mPl_fn, mMono_fn, mAnn_fn, mDecl_fn, mTData_fn, mGn_fn, zSL, Nat.zero_add, Nat.add_zero, Nat.add_assoc]
def okVw (b : Nat) (t : Vw) : Prop := okL b (eVw t)
theorem okVw_fn : (fun b t => okL b (eVw t)) = okVw := rfl
def zVw (t : Vw) : Nat := mL (eVw t)
theorem mVw_fn : (fun t => mL (eVw t)) = zVw := rfl
theorem okVw_down {B b : Nat} {t : Vw} (h : okVw B t) (g : zVw t ≤ b) : okVw b t := okL_down h g
theorem okVw_iff {b : Nat} {t : Vw} : okVw b t ↔ okS b t.table ∧ okTm b t.cond ∧ okLs b okS t.cols ∧ okS b t.key := by
  conv => lhs; unfold okVw
  rw [eVw_eta, okTm_iff, okTy_iff]; simp only [okL_cons, okL_nil, okI_int, okI_str, okI_L, okS_fn, okTy_fn, okVal_fn, okTm_fn, okPl_fn, okMono_fn, okAnn_fn, okDecl_fn, okTData_fn, okGn_fn, okVw_fn, and_true, and_assoc]
theorem zVw_eta (t : Vw) : zVw t = zS t.table + zTm t.cond + zSL t.cols + zS t.key := by
  conv => lhs; unfold zVw
  rw [eVw_eta, zTm_eta, zTy_eta]; simp only [mL_cons, mL_nil, mI_int, mI_str, mI_L, mS_fn, mTy_fn, mVal_fn, mTm_fn, mPl_fn, mMono_fn, mAnn_fn, mDecl_fn, mTData_fn, mGn_fn, mVw_fn, zSL, Nat.zero_add, Nat.add_zero, Nat.add_assoc]
theorem Ty.mem {t u : Ty} (h : u ∈ t.args) : SizeOf.sizeOf u < SizeOf.sizeOf t := by
  cases t with
  | mk k l a => have := List.sizeOf_lt_of_mem h; simp only [Ty.mk.sizeOf_spec, Ty.args] at *; omega
theorem Val.mem {t u : Val} (h : u ∈ t.args) : SizeOf.sizeOf u < SizeOf.sizeOf t := by
  cases t with
  | mk k n l a => have := List.sizeOf_lt_of_mem h; simp only [Val.mk.sizeOf_spec, Val.args] at *; omega
theorem Tm.mem {t u : Tm} (h : u ∈ t.args) : SizeOf.sizeOf u < SizeOf.sizeOf t := by
  cases t with
  | mk k s n t l a => have := List.sizeOf_lt_of_mem h; simp only [Tm.mk.sizeOf_spec, Tm.args] at *; omega
theorem Pl.mem {t u : Pl} (h : u ∈ t.args) : SizeOf.sizeOf u < SizeOf.sizeOf t := by
  cases t with
  | mk k s n t l a => have := List.sizeOf_lt_of_mem h; simp only [Pl.mk.sizeOf_spec, Pl.args] at *; omega
def ePoly (l : List Mono) : List IV := [slI eMono l]
theorem ePoly_eta (l : List Mono) : ePoly l = [slI eMono l] := rfl
instance : Wid ePoly 1 := ⟨fun _ => rfl⟩
def okPoly (b : Nat) (t : List Mono) : Prop := okL b (ePoly t)
theorem okPoly_fn : (fun b t => okL b (ePoly t)) = okPoly := rfl
def zPoly (t : List Mono) : Nat := mL (ePoly t)
theorem mPoly_fn : (fun t => mL (ePoly t)) = zPoly := rfl
theorem okPoly_down {B b : Nat} {t : List Mono} (h : okPoly B t) (g : zPoly t ≤ b) : okPoly b t := okL_down h g
theorem okPoly_iff {b : Nat} {t : List Mono} : okPoly b t ↔ okLs b okMono t := by
  conv => lhs; unfold okPoly
  rw [ePoly]; simp only [okL_cons, okL_nil, okI_L, okMono_fn, and_true]
theorem zPoly_eta (t : List Mono) : zPoly t = zL zMono t := by
  conv => lhs; unfold zPoly
  rw [ePoly]; simp only [mL_cons, mL_nil, mI_L, mMono_fn, Nat.add_zero]
def eSch (l : List Decl) : List IV := [slI eDecl l]
theorem eSch_eta (l : List Decl) : eSch l = [slI eDecl l] := rfl
instance : Wid eSch 1 := ⟨fun _ => rfl⟩
def okSch (b : Nat) (t : List Decl) : Prop := okL b (eSch t)
theorem okSch_fn : (fun b t => okL b (eSch t)) = okSch := rfl
def zSch (t : List Decl) : Nat := mL (eSch t)
theorem mSch_fn : (fun t => mL (eSch t)) = zSch := rfl
theorem okSch_down {B b : Nat} {t : List Decl} (h : okSch B t) (g : zSch t ≤ b) : okSch b t := okL_down h g
theorem okSch_iff {b : Nat} {t : List Decl} : okSch b t ↔ okLs b okDecl t := by
  conv => lhs; unfold okSch
  rw [eSch]; simp only [okL_cons, okL_nil, okI_L, okDecl_fn, and_true]
theorem zSch_eta (t : List Decl) : zSch t = zL zDecl t := by
  conv => lhs; unfold zSch
  rw [eSch]; simp only [mL_cons, mL_nil, mI_L, mDecl_fn, Nat.add_zero]
def eDbs (l : List TData) : List IV := [slI eTData l]
theorem eDbs_eta (l : List TData) : eDbs l = [slI eTData l] := rfl
instance : Wid eDbs 1 := ⟨fun _ => rfl⟩
def okDbs (b : Nat) (t : List TData) : Prop := okL b (eDbs t)
theorem okDbs_fn : (fun b t => okL b (eDbs t)) = okDbs := rfl
def zDbs (t : List TData) : Nat := mL (eDbs t)
theorem mDbs_fn : (fun t => mL (eDbs t)) = zDbs := rfl
theorem okDbs_down {B b : Nat} {t : List TData} (h : okDbs B t) (g : zDbs t ≤ b) : okDbs b t := okL_down h g
theorem okDbs_iff {b : Nat} {t : List TData} : okDbs b t ↔ okLs b okTData t := by
  conv => lhs; unfold okDbs
  rw [eDbs]; simp only [okL_cons, okL_nil, okI_L, okTData_fn, and_true]
theorem zDbs_eta (t : List TData) : zDbs t = zL zTData t := by
  conv => lhs; unfold zDbs
  rw [eDbs]; simp only [mL_cons, mL_nil, mI_L, mTData_fn, Nat.add_zero]
theorem okAnn_iff {b : Nat} {t : Ann} : okAnn b t ↔ okVal b t.value ∧ okPoly b t.poly := by rw [okPoly_iff, okAnn_iff0]
theorem zAnn_eta (t : Ann) : zAnn t = zVal t.value + zPoly t.poly := by rw [zPoly_eta, zAnn_eta0]
theorem eMono_eta (t : Mono) : eMono t = [.sc (.int .i64 t.coef), slI eS t.vars] := rfl
theorem eTData_eta (t : TData) : eTData t = [.sc (.string t.name), slI eVal t.rows] := rfl
theorem eGn_eta (t : Gn) : eGn t = [.sc (.string t.var), .sc (.string t.table)] := rfl
/-- A key. -/
structure Kd where
  table : ByteArray
  label : ByteArray
def eKd (a : Kd) : List IV := [.sc (.string a.table), .sc (.string a.label)]
theorem eKd_eta (t : Kd) : eKd t = [.sc (.string t.table), .sc (.string t.label)] := rfl
instance : Wid eKd 2 := ⟨fun _ => rfl⟩
def okKd (b : Nat) (t : Kd) : Prop := okL b (eKd t)
def zKd (t : Kd) : Nat := mL (eKd t)
theorem okKd_down {B b : Nat} {t : Kd} (h : okKd B t) (g : zKd t ≤ b) : okKd b t := okL_down h g
theorem okKd_iff {b : Nat} {t : Kd} : okKd b t ↔ okS b t.table ∧ okS b t.label := by
  conv => lhs; unfold okKd
  rw [eKd]; simp only [okL_cons, okL_nil, okI_str, and_true]
theorem zKd_eta (t : Kd) : zKd t = zS t.table + zS t.label := by
  conv => lhs; unfold zKd
  rw [eKd]; simp only [mL_cons, mL_nil, mI_str, Nat.add_zero]
/-- What a session holds. -/
structure Ses where
  schema : List Decl
  db : List TData
  query : Tm
  other : Tm
def eSes (a : Ses) : List IV := slI eDecl a.schema :: slI eTData a.db :: (eTm a.query ++ eTm a.other)
theorem eSes_eta (a : Ses) : eSes a = [slI eDecl a.schema, slI eTData a.db, .sc (.int .i64 a.query.kind), .sc (.string a.query.name), .sc (.int .i64 a.query.n), .sc (.int .i64 a.query.ty.kind), slI eS a.query.ty.labels, slI eTy a.query.ty.args, slI eS a.query.labels, slI eTm a.query.args, .sc (.int .i64 a.other.kind), .sc (.string a.other.name), .sc (.int .i64 a.other.n), .sc (.int .i64 a.other.ty.kind), slI eS a.other.ty.labels, slI eTy a.other.ty.args, slI eS a.other.labels, slI eTm a.other.args] := by rw [eSes, eTm_eta, eTm_eta]; rfl
instance : Wid eSes 18 := ⟨fun t => by rw [eSes_eta]; rfl⟩
def okSes (b : Nat) (t : Ses) : Prop := okL b (eSes t)
def zSes (t : Ses) : Nat := mL (eSes t)
theorem okSes_down {B b : Nat} {t : Ses} (h : okSes B t) (g : zSes t ≤ b) : okSes b t := okL_down h g
theorem okSes_iff {b : Nat} {t : Ses} : okSes b t ↔ okSch b t.schema ∧ okDbs b t.db ∧ okTm b t.query ∧ okTm b t.other := by
  conv => lhs; unfold okSes
  rw [eSes]; simp only [okL_cons, okL_append, okI_L, okDecl_fn, okTData_fn, okTm, okSch_iff, okDbs_iff]
theorem zSes_eta (t : Ses) : zSes t = zSch t.schema + zDbs t.db + zTm t.query + zTm t.other := by
  conv => lhs; unfold zSes
  rw [eSes]; simp only [mL_cons, mL_append, mI_L, mDecl_fn, mTData_fn, zTm, zSch_eta, zDbs_eta, Nat.add_assoc]
end Go.VC
/- When data are equal: no statement of a program. -/
set_option linter.unusedVariables false
namespace Go.VC
open Go
noncomputable instance : DecidableEq Ty := fun a b => Classical.propDecidable _
noncomputable instance : DecidableEq Val := fun a b => Classical.propDecidable _
noncomputable instance : DecidableEq Tm := fun a b => Classical.propDecidable _
noncomputable instance : DecidableEq Pl := fun a b => Classical.propDecidable _
noncomputable instance : DecidableEq Mono := fun a b => Classical.propDecidable _
noncomputable instance : DecidableEq Ann := fun a b => Classical.propDecidable _
noncomputable instance : DecidableEq Decl := fun a b => Classical.propDecidable _
noncomputable instance : DecidableEq TData := fun a b => Classical.propDecidable _
noncomputable instance : DecidableEq Vw := fun a b => Classical.propDecidable _
noncomputable instance : DecidableEq Ses := fun a b => Classical.propDecidable _
theorem Ty.ext {t u : Ty} (h1 : t.kind = u.kind) (h2 : t.labels = u.labels) (h3 : t.args = u.args) : t = u := by
  cases t; cases u; simp_all [Ty.kind, Ty.labels, Ty.args]
theorem Val.ext {t u : Val} (h1 : t.kind = u.kind) (h0 : t.n = u.n) (h2 : t.labels = u.labels) (h3 : t.args = u.args) : t = u := by
  cases t; cases u; simp_all [Val.kind, Val.n, Val.labels, Val.args]
theorem Tm.ext {t u : Tm} (h1 : t.kind = u.kind) (h4 : t.name = u.name) (h0 : t.n = u.n) (h5 : t.ty = u.ty) (h2 : t.labels = u.labels) (h3 : t.args = u.args) : t = u := by
  cases t; cases u; simp_all [Tm.kind, Tm.name, Tm.n, Tm.ty, Tm.labels, Tm.args]
theorem Mono.ext {t u : Mono} (h1 : t.coef = u.coef) (h2 : t.vars = u.vars) : t = u := by cases t; cases u; simp_all
theorem Ann.ext {t u : Ann} (h1 : t.value = u.value) (h2 : t.poly = u.poly) : t = u := by cases t; cases u; simp_all
theorem Decl.ext {t u : Decl} (h1 : t.name = u.name) (h2 : t.row = u.row) : t = u := by cases t; cases u; simp_all
theorem TData.ext {t u : TData} (h1 : t.name = u.name) (h2 : t.rows = u.rows) : t = u := by cases t; cases u; simp_all
theorem Vw.ext {t u : Vw} (h1 : t.table = u.table) (h2 : t.cond = u.cond) (h3 : t.cols = u.cols) (h4 : t.key = u.key) : t = u := by cases t; cases u; simp_all
theorem Ses.ext {t u : Ses} (h1 : t.schema = u.schema) (h2 : t.db = u.db) (h3 : t.query = u.query) (h4 : t.other = u.other) : t = u := by cases t; cases u; simp_all
theorem take_all {α : Type} {xs ys : List α} {i : Nat} (h : xs.take i = ys.take i) (hl : xs.length = ys.length) (hi : xs.length ≤ i) : xs = ys := by
  rw [List.take_of_length_le hi, List.take_of_length_le (by omega)] at h; exact h
theorem ne_len {α : Type} {xs ys : List α} (h : ¬ xs.length = ys.length) : xs ≠ ys := fun e => h (by rw [e])
theorem ne_at {α : Type} {xs ys : List α} {i : Nat} (hx : i < xs.length) (hy : i < ys.length) (h : ¬ xs[i] = ys[i]) : xs ≠ ys := fun e => h (by subst e; rfl)
end Go.VC
/- Heads, comprehensions, queries, as trees: no statement of a program. -/
set_option linter.unusedSimpArgs false
set_option linter.unusedVariables false
namespace Go.VC
open Go
mutual
/-- A head. -/
inductive Hd where
  | mk (kind : Int) (term : Tm) (labels : List ByteArray) (parts : List Hd) (query : List Cmp)
/-- A comprehension. -/
inductive Cmp where
  | mk (gens : List Gn) (wh : Tm) (head : Hd)
end
def Hd.kind : Hd → Int | .mk k _ _ _ _ => k
def Hd.term : Hd → Tm | .mk _ t _ _ _ => t
def Hd.labels : Hd → List ByteArray | .mk _ _ l _ _ => l
def Hd.parts : Hd → List Hd | .mk _ _ _ p _ => p
def Hd.query : Hd → List Cmp | .mk _ _ _ _ q => q
def Cmp.gens : Cmp → List Gn | .mk g _ _ => g
def Cmp.wh : Cmp → Tm | .mk _ w _ => w
def Cmp.head : Cmp → Hd | .mk _ _ h => h
instance : Inhabited Hd := ⟨.mk 0 default [] [] []⟩
instance : Inhabited Cmp := ⟨.mk [] default default⟩
mutual
def eHd : Hd → List IV
  | .mk k t l p q => [.sc (.int .i64 k)] ++ (eTm t ++ [slI eS l, .sl p.length (eHdL p), .sl q.length (eCmpL q)])
def eHdL : List Hd → List IV
  | [] => []
  | t :: r => eHd t ++ eHdL r
def eCmp : Cmp → List IV
  | .mk g w h => [slI eGn g] ++ (eTm w ++ eHd h)
def eCmpL : List Cmp → List IV
  | [] => []
  | t :: r => eCmp t ++ eCmpL r
end
theorem eHdL_eq : ∀ (l : List Hd), eHdL l = l.flatMap eHd
  | [] => by rw [eHdL]; rfl
  | t :: r => by rw [eHdL, eHdL_eq r, List.flatMap_cons]
theorem eCmpL_eq : ∀ (l : List Cmp), eCmpL l = l.flatMap eCmp
  | [] => by rw [eCmpL]; rfl
  | t :: r => by rw [eCmpL, eCmpL_eq r, List.flatMap_cons]
theorem eHd_app (t : Hd) : eHd t = [.sc (.int .i64 t.kind)] ++ (eTm t.term ++ ([slI eS t.labels, slI eHd t.parts, slI eCmp t.query])) := by
  cases t with
  | mk k t l p q => rw [eHd, eHdL_eq, eCmpL_eq]; rfl
theorem eCmp_app (t : Cmp) : eCmp t = [slI eGn t.gens] ++ (eTm t.wh ++ (eHd t.head)) := by
  cases t with
  | mk g w h => rw [eCmp]; rfl
theorem eHd_eta (t : Hd) : eHd t = [.sc (.int .i64 t.kind), .sc (.int .i64 t.term.kind), .sc (.string t.term.name), .sc (.int .i64 t.term.n), .sc (.int .i64 t.term.ty.kind), slI eS t.term.ty.labels, slI eTy t.term.ty.args, slI eS t.term.labels, slI eTm t.term.args, slI eS t.labels, slI eHd t.parts, slI eCmp t.query] := by rw [eHd_app, eTm_eta]; rfl
theorem eCmp_eta (t : Cmp) : eCmp t = [slI eGn t.gens, .sc (.int .i64 t.wh.kind), .sc (.string t.wh.name), .sc (.int .i64 t.wh.n), .sc (.int .i64 t.wh.ty.kind), slI eS t.wh.ty.labels, slI eTy t.wh.ty.args, slI eS t.wh.labels, slI eTm t.wh.args, .sc (.int .i64 t.head.kind), .sc (.int .i64 t.head.term.kind), .sc (.string t.head.term.name), .sc (.int .i64 t.head.term.n), .sc (.int .i64 t.head.term.ty.kind), slI eS t.head.term.ty.labels, slI eTy t.head.term.ty.args, slI eS t.head.term.labels, slI eTm t.head.term.args, slI eS t.head.labels, slI eHd t.head.parts, slI eCmp t.head.query] := by rw [eCmp_app, eTm_eta, eHd_eta]; rfl
instance : Wid eHd 12 := ⟨fun t => by rw [eHd_eta]; rfl⟩
instance : Wid eCmp 21 := ⟨fun t => by rw [eCmp_eta]; rfl⟩
def okHd (b : Nat) (t : Hd) : Prop := okL b (eHd t)
theorem okHd_fn : (fun b t => okL b (eHd t)) = okHd := rfl
def zHd (t : Hd) : Nat := mL (eHd t)
theorem mHd_fn : (fun t => mL (eHd t)) = zHd := rfl
theorem okHd_down {B b : Nat} {t : Hd} (h : okHd B t) (g : zHd t ≤ b) : okHd b t := okL_down h g
def okCmp (b : Nat) (t : Cmp) : Prop := okL b (eCmp t)
theorem okCmp_fn : (fun b t => okL b (eCmp t)) = okCmp := rfl
def zCmp (t : Cmp) : Nat := mL (eCmp t)
theorem mCmp_fn : (fun t => mL (eCmp t)) = zCmp := rfl
theorem okCmp_down {B b : Nat} {t : Cmp} (h : okCmp B t) (g : zCmp t ≤ b) : okCmp b t := okL_down h g
theorem okHd_iff {b : Nat} {t : Hd} : okHd b t ↔ ok64 t.kind ∧ okTm b t.term ∧ okLs b okS t.labels ∧ okLs b okHd t.parts ∧ okLs b okCmp t.query := by
  conv => lhs; unfold okHd
  rw [eHd_app]; simp only [okL_append, okL_cons, okL_nil, okI_int, okI_str, okI_L, okS_fn, okTy_fn, okVal_fn, okTm_fn, okPl_fn, okMono_fn, okAnn_fn, okDecl_fn, okTData_fn, okGn_fn, okHd_fn, okCmp_fn, and_true, true_and, and_assoc, okTm]
theorem zHd_eta (t : Hd) : zHd t = zTm t.term + zSL t.labels + zL zHd t.parts + zL zCmp t.query := by
  conv => lhs; unfold zHd
  rw [eHd_app]; simp only [mL_append, mL_cons, mL_nil, mI_int, mI_str, mI_L, mS_fn, mTy_fn, mVal_fn, mTm_fn, mPl_fn, mMono_fn, mAnn_fn, mDecl_fn, mTData_fn, mGn_fn, mHd_fn, mCmp_fn, zSL, Nat.zero_add, Nat.add_zero, Nat.add_assoc, zTm]
theorem okCmp_iff {b : Nat} {t : Cmp} : okCmp b t ↔ okLs b okGn t.gens ∧ okTm b t.wh ∧ okHd b t.head := by
  conv => lhs; unfold okCmp
  rw [eCmp_app]; simp only [okL_append, okL_cons, okL_nil, okI_int, okI_str, okI_L, okS_fn, okTy_fn, okVal_fn, okTm_fn, okPl_fn, okMono_fn, okAnn_fn, okDecl_fn, okTData_fn, okGn_fn, okHd_fn, okCmp_fn, and_true, true_and, and_assoc, okTm, okHd]
theorem zCmp_eta (t : Cmp) : zCmp t = zL zGn t.gens + zTm t.wh + zHd t.head := by
  conv => lhs; unfold zCmp
  rw [eCmp_app]; simp only [mL_append, mL_cons, mL_nil, mI_int, mI_str, mI_L, mS_fn, mTy_fn, mVal_fn, mTm_fn, mPl_fn, mMono_fn, mAnn_fn, mDecl_fn, mTData_fn, mGn_fn, mHd_fn, mCmp_fn, zSL, Nat.zero_add, Nat.add_zero, Nat.add_assoc, zTm, zHd]
/-- A query: its comprehensions. -/
def eQr (l : List Cmp) : List IV := [slI eCmp l]
theorem eQr_eta (l : List Cmp) : eQr l = [slI eCmp l] := rfl
instance : Wid eQr 1 := ⟨fun _ => rfl⟩
def okQr (b : Nat) (t : List Cmp) : Prop := okL b (eQr t)
theorem okQr_fn : (fun b t => okL b (eQr t)) = okQr := rfl
def zQr (t : List Cmp) : Nat := mL (eQr t)
theorem mQr_fn : (fun t => mL (eQr t)) = zQr := rfl
theorem okQr_down {B b : Nat} {t : List Cmp} (h : okQr B t) (g : zQr t ≤ b) : okQr b t := okL_down h g
theorem okQr_iff {b : Nat} {t : List Cmp} : okQr b t ↔ okLs b okCmp t := by
  conv => lhs; unfold okQr
  rw [eQr]; simp only [okL_cons, okL_nil, okI_L, okCmp_fn, and_true]
theorem zQr_eta (t : List Cmp) : zQr t = zL zCmp t := by
  conv => lhs; unfold zQr
  rw [eQr]; simp only [mL_cons, mL_nil, mI_L, mCmp_fn, Nat.add_zero]
theorem okHd_iff' {b : Nat} {t : Hd} : okHd b t ↔ ok64 t.kind ∧ okTm b t.term ∧ okLs b okS t.labels ∧ okLs b okHd t.parts ∧ okQr b t.query := by rw [okHd_iff, okQr_iff]
theorem zHd_eta' (t : Hd) : zHd t = zTm t.term + zSL t.labels + zL zHd t.parts + zQr t.query := by rw [zHd_eta, zQr_eta]
theorem Hd.ext {t u : Hd} (h1 : t.kind = u.kind) (h2 : t.term = u.term) (h3 : t.labels = u.labels) (h4 : t.parts = u.parts) (h5 : t.query = u.query) : t = u := by
  cases t; cases u; simp_all [Hd.kind, Hd.term, Hd.labels, Hd.parts, Hd.query]
theorem Cmp.ext {t u : Cmp} (h1 : t.gens = u.gens) (h2 : t.wh = u.wh) (h3 : t.head = u.head) : t = u := by
  cases t; cases u; simp_all [Cmp.gens, Cmp.wh, Cmp.head]
noncomputable instance : DecidableEq Hd := fun a b => Classical.propDecidable _
noncomputable instance : DecidableEq Cmp := fun a b => Classical.propDecidable _
theorem Hd.memP {t u : Hd} (h : u ∈ t.parts) : SizeOf.sizeOf u < SizeOf.sizeOf t := by
  cases t with
  | mk k t l p q => have := List.sizeOf_lt_of_mem h; simp only [Hd.mk.sizeOf_spec, Hd.parts] at *; omega
theorem Hd.memQ {t : Hd} {c : Cmp} (h : c ∈ t.query) : SizeOf.sizeOf c < SizeOf.sizeOf t := by
  cases t with
  | mk k t l p q => have := List.sizeOf_lt_of_mem h; simp only [Hd.mk.sizeOf_spec, Hd.query] at *; omega
theorem Cmp.memH (c : Cmp) : SizeOf.sizeOf c.head < SizeOf.sizeOf c := by
  cases c with
  | mk g w h => simp only [Cmp.mk.sizeOf_spec, Cmp.head]; omega
end Go.VC
/- Flat data, as trees: no statement of a program. -/
set_option linter.unusedSimpArgs false
set_option linter.unusedVariables false
namespace Go.VC
open Go
/-- A flat comprehension. -/
structure FC where
  outer : Int
  outerGens : Int
  tag : Int
  gens : List Gn
  wh : Tm
  cols : List Tm
def eFC (a : FC) : List IV := [.sc (.int .i64 a.outer), .sc (.int .i64 a.outerGens), .sc (.int .i64 a.tag), slI eGn a.gens] ++ (eTm a.wh ++ ([slI eTm a.cols]))
theorem eFC_app (a : FC) : eFC a = [.sc (.int .i64 a.outer), .sc (.int .i64 a.outerGens), .sc (.int .i64 a.tag), slI eGn a.gens] ++ (eTm a.wh ++ ([slI eTm a.cols])) := rfl
theorem eFC_eta (a : FC) : eFC a = [.sc (.int .i64 a.outer), .sc (.int .i64 a.outerGens), .sc (.int .i64 a.tag), slI eGn a.gens, .sc (.int .i64 a.wh.kind), .sc (.string a.wh.name), .sc (.int .i64 a.wh.n), .sc (.int .i64 a.wh.ty.kind), slI eS a.wh.ty.labels, slI eTy a.wh.ty.args, slI eS a.wh.labels, slI eTm a.wh.args, slI eTm a.cols] := by rw [eFC, eTm_eta]; rfl
instance : Wid eFC 13 := ⟨fun t => by rw [eFC_eta]; rfl⟩
def okFC (b : Nat) (t : FC) : Prop := okL b (eFC t)
theorem okFC_fn : (fun b t => okL b (eFC t)) = okFC := rfl
def zFC (t : FC) : Nat := mL (eFC t)
theorem mFC_fn : (fun t => mL (eFC t)) = zFC := rfl
theorem okFC_down {B b : Nat} {t : FC} (h : okFC B t) (g : zFC t ≤ b) : okFC b t := okL_down h g
theorem okFC_iff {b : Nat} {t : FC} : okFC b t ↔ ok64 t.outer ∧ ok64 t.outerGens ∧ ok64 t.tag ∧ okLs b okGn t.gens ∧ okTm b t.wh ∧ okLs b okTm t.cols := by
  conv => lhs; unfold okFC
  rw [eFC_app]; simp only [okL_append, okL_cons, okL_nil, okI_int, okI_str, okI_L, okS_fn, okTy_fn, okVal_fn, okTm_fn, okPl_fn, okMono_fn, okAnn_fn, okDecl_fn, okTData_fn, okGn_fn, okHd_fn, okCmp_fn, okQr_fn, okFC_fn, and_true, true_and, and_assoc, okTm]
theorem zFC_eta (t : FC) : zFC t = zL zGn t.gens + zTm t.wh + zL zTm t.cols := by
  conv => lhs; unfold zFC
  rw [eFC_app]; simp only [mL_append, mL_cons, mL_nil, mI_int, mI_str, mI_L, mS_fn, mTy_fn, mVal_fn, mTm_fn, mPl_fn, mMono_fn, mAnn_fn, mDecl_fn, mTData_fn, mGn_fn, mHd_fn, mCmp_fn, mQr_fn, mFC_fn, zSL, Nat.zero_add, Nat.add_zero, Nat.add_assoc, zTm]
theorem FC.ext {t u : FC} (h0 : t.outer = u.outer) (h1 : t.outerGens = u.outerGens) (h2 : t.tag = u.tag) (h3 : t.gens = u.gens) (h4 : t.wh = u.wh) (h5 : t.cols = u.cols) : t = u := by cases t; cases u; simp_all
noncomputable instance : DecidableEq FC := fun a b => Classical.propDecidable _
/-- A flat query. -/
structure FQ where
  path : List ByteArray
  comps : List FC
def eFQ (a : FQ) : List IV := [slI eS a.path, slI eFC a.comps]
theorem eFQ_app (a : FQ) : eFQ a = [slI eS a.path, slI eFC a.comps] := rfl
theorem eFQ_eta (a : FQ) : eFQ a = [slI eS a.path, slI eFC a.comps] := by rfl
instance : Wid eFQ 2 := ⟨fun t => by rw [eFQ_eta]; rfl⟩
def okFQ (b : Nat) (t : FQ) : Prop := okL b (eFQ t)
theorem okFQ_fn : (fun b t => okL b (eFQ t)) = okFQ := rfl
def zFQ (t : FQ) : Nat := mL (eFQ t)
theorem mFQ_fn : (fun t => mL (eFQ t)) = zFQ := rfl
theorem okFQ_down {B b : Nat} {t : FQ} (h : okFQ B t) (g : zFQ t ≤ b) : okFQ b t := okL_down h g
theorem okFQ_iff {b : Nat} {t : FQ} : okFQ b t ↔ okLs b okS t.path ∧ okLs b okFC t.comps := by
  conv => lhs; unfold okFQ
  rw [eFQ_app]; simp only [okL_append, okL_cons, okL_nil, okI_int, okI_str, okI_L, okS_fn, okTy_fn, okVal_fn, okTm_fn, okPl_fn, okMono_fn, okAnn_fn, okDecl_fn, okTData_fn, okGn_fn, okHd_fn, okCmp_fn, okQr_fn, okFC_fn, okFQ_fn, and_true, true_and, and_assoc]
theorem zFQ_eta (t : FQ) : zFQ t = zSL t.path + zL zFC t.comps := by
  conv => lhs; unfold zFQ
  rw [eFQ_app]; simp only [mL_append, mL_cons, mL_nil, mI_int, mI_str, mI_L, mS_fn, mTy_fn, mVal_fn, mTm_fn, mPl_fn, mMono_fn, mAnn_fn, mDecl_fn, mTData_fn, mGn_fn, mHd_fn, mCmp_fn, mQr_fn, mFC_fn, mFQ_fn, zSL, Nat.zero_add, Nat.add_zero, Nat.add_assoc]
theorem FQ.ext {t u : FQ} (h0 : t.path = u.path) (h1 : t.comps = u.comps) : t = u := by cases t; cases u; simp_all
noncomputable instance : DecidableEq FQ := fun a b => Classical.propDecidable _
end Go.VC
/- Marks: every scalar that a row leads to, numbered in order: no statement of a program. -/
set_option linter.unusedSimpArgs false
set_option linter.unusedVariables false
namespace Go.VC
open Go
section
variable (mT : Int → ByteArray)
mutual
def cnI : IV → Nat
  | .sc (.int _ _) => 1
  | .sc (.string _) => 1
  | .sl _ cs => cnL cs
  | _ => 0
def cnL : List IV → Nat
  | [] => 0
  | x :: r => cnI x + cnL r
end
mutual
def mkI (k : Int) : IV → IV
  | .sc (.int i _) => .sc (.int i k)
  | .sc (.string _) => .sc (.string (mT k))
  | .sl n cs => .sl n (mkL k cs)
  | x => x
def mkL (k : Int) : List IV → List IV
  | [] => []
  | x :: r => mkI k x :: mkL (k + cnI x) r
end
theorem cnL_append : ∀ {a b : List IV}, cnL (a ++ b) = cnL a + cnL b
  | [], b => by simp [cnL]
  | x :: r, b => by simp only [List.cons_append, cnL, cnL_append (a := r), Nat.add_assoc]
theorem mkL_append : ∀ {k : Int} {a b : List IV}, mkL mT k (a ++ b) = mkL mT k a ++ mkL mT (k + cnL a) b
  | k, [], b => by simp [mkL, cnL]
  | k, x :: r, b => by
    simp only [List.cons_append, mkL, cnL, mkL_append (a := r)]
    rw [show k + ((cnI x + cnL r : Nat) : Int) = k + (cnI x : Int) + (cnL r : Int) by omega]
theorem mkL_len : ∀ {k : Int} {a : List IV}, (mkL mT k a).length = a.length
  | _, [] => rfl
  | k, x :: r => by simp only [mkL, List.length_cons, mkL_len (a := r)]
variable {α : Type} {E : α → List IV} {z : Nat}
/-- The row at element i's turn. -/
def mkA (E : α → List IV) (k : Int) (xs : List α) (i : Nat) : List IV := mkL mT k ((xs.take i).flatMap E)
/-- How many marks there are before element i. -/
def cnT (E : α → List IV) (xs : List α) (i : Nat) : Nat := cnL ((xs.take i).flatMap E)
theorem mkA_len [Wid E z] {k : Int} {xs : List α} {i : Nat} (h : i ≤ xs.length) : (mkA mT E k xs i).length = i * z := by
  rw [mkA, mkL_len, flat_len', List.length_take, Nat.min_eq_left h]
theorem mkA_zero {k : Int} {xs : List α} : mkA mT E k xs 0 = [] := by simp [mkA, mkL]
theorem cnT_zero {xs : List α} : cnT E xs 0 = 0 := by simp [cnT, cnL]
theorem cnT_succ {xs : List α} {i : Nat} (h : i < xs.length) : cnT E xs (i + 1) = cnT E xs i + cnL (E xs[i]) := by
  rw [cnT, take_at h, List.flatMap_append, cnL_append, flat_one, cnT]
theorem mkA_succ {k : Int} {xs : List α} {i : Nat} (h : i < xs.length) : mkA mT E k xs (i + 1) = mkA mT E k xs i ++ mkL mT (k + cnT E xs i) (E xs[i]) := by
  rw [mkA, take_at h, List.flatMap_append, mkL_append, flat_one, mkA, cnT]
theorem mkA_all {k : Int} {xs : List α} {i : Nat} (h : xs.length ≤ i) : mkA mT E k xs i = mkL mT k (xs.flatMap E) := by rw [mkA, List.take_of_length_le h]
theorem cnT_all {xs : List α} {i : Nat} (h : xs.length ≤ i) : cnT E xs i = cnL (xs.flatMap E) := by rw [cnT, List.take_of_length_le h]
theorem cnT_le {xs : List α} {i : Nat} : cnT E xs i ≤ cnL (xs.flatMap E) := by
  have : xs.flatMap E = (xs.take i).flatMap E ++ (xs.drop i).flatMap E := by rw [← List.flatMap_append, List.take_append_drop]
  rw [this, cnL_append]; unfold cnT; omega
theorem drop_flat {xs : List α} {i : Nat} (h : i < xs.length) : (xs.drop i).flatMap E = E xs[i] ++ (xs.drop (i + 1)).flatMap E := by rw [drop_at h, List.flatMap_cons]
theorem drop_all {xs : List α} {i : Nat} (h : xs.length ≤ i) : (xs.drop i).flatMap E = [] := by rw [List.drop_of_length_le h]; rfl
/-- What is left to mark, read from element i on. -/
theorem mk_drop [w : Wid E z] {k : Int} {xs : List α} {i : Nat} (h : i < xs.length) : (mkL mT k (xs.flatMap E)).drop (i * z) = mkL mT (k + cnT E xs i) (E xs[i]) ++ mkL mT (k + cnT E xs (i + 1)) ((xs.drop (i + 1)).flatMap E) := by
  have e : xs.flatMap E = (xs.take i).flatMap E ++ (E xs[i] ++ (xs.drop (i + 1)).flatMap E) := by
    rw [← drop_flat h, ← List.flatMap_append, List.take_append_drop]
  have hl : (mkL mT k ((xs.take i).flatMap E)).length = i * z := mkA_len mT (Nat.le_of_lt h)
  conv => lhs; rw [e, mkL_append]
  rw [List.drop_left' hl, mkL_append, cnT_succ h, cnT]
  congr 2
  omega
theorem pt_mk [w : Wid E z] {k : Int} {xs : List α} {i : Nat} (h : i < xs.length) : IV.pt ((mkL mT k (xs.flatMap E)).drop (i * z)) = .pt (mkL mT (k + cnT E xs i) (E xs[i]) ++ mkL mT (k + cnT E xs (i + 1)) ((xs.drop (i + 1)).flatMap E)) := by rw [mk_drop mT h]
theorem pt_mk1 [w : Wid E 1] {k : Int} {xs : List α} {i : Nat} (h : i < xs.length) : IV.pt ((mkL mT k (xs.flatMap E)).drop i) = .pt (mkL mT (k + cnT E xs i) (E xs[i]) ++ mkL mT (k + cnT E xs (i + 1)) ((xs.drop (i + 1)).flatMap E)) := by
  have := pt_mk mT (E := E) (z := 1) (k := k) h
  rwa [Nat.mul_one] at this
end
section
variable (mT : Int → ByteArray)
theorem mkL_i {k a : Int} {i : IntKind} {r : List IV} : mkL mT k (.sc (.int i a) :: r) = .sc (.int i k) :: mkL mT (k + 1) r := by rw [mkL, mkI, cnI]; rfl
theorem mkL_s {k : Int} {s : ByteArray} {r : List IV} : mkL mT k (.sc (.string s) :: r) = .sc (.string (mT k)) :: mkL mT (k + 1) r := by rw [mkL, mkI, cnI]; rfl
theorem mkL_l {k : Int} {n : Nat} {cs r : List IV} : mkL mT k (.sl n cs :: r) = .sl n (mkL mT k cs) :: mkL mT (k + (cnL cs : Int)) r := by rw [mkL, mkI, cnI]
theorem mkL_n {k : Int} : mkL mT k [] = [] := by rw [mkL]
end
theorem cnL_i {a : Int} {i : IntKind} {r : List IV} : cnL (.sc (.int i a) :: r) = cnL r + 1 := by rw [cnL, cnI]; omega
theorem cnL_s {s : ByteArray} {r : List IV} : cnL (.sc (.string s) :: r) = cnL r + 1 := by rw [cnL, cnI]; omega
theorem cnL_l {n : Nat} {cs r : List IV} : cnL (.sl n cs :: r) = cnL cs + cnL r := by rw [cnL, cnI]
theorem cnL_n : cnL [] = 0 := by rw [cnL]
/-- Each element bears at least one mark. -/
class Cn1 {α : Type} (E : α → List IV) : Prop where
  one : ∀ a, 1 ≤ cnL (E a)
instance : Cn1 eS := ⟨fun _ => by simp only [eS, cnL_s, cnL_n]; omega⟩
instance : Cn1 eI := ⟨fun _ => by simp only [eI, cnL_i, cnL_n]; omega⟩
instance : Cn1 eTy := ⟨fun _ => by rw [eTy_eta]; simp only [cnL_i]; omega⟩
instance : Cn1 eVal := ⟨fun _ => by rw [eVal_eta]; simp only [cnL_i]; omega⟩
instance : Cn1 eTm := ⟨fun _ => by rw [eTm_eta]; simp only [cnL_i]; omega⟩
instance : Cn1 ePl := ⟨fun _ => by rw [ePl_eta]; simp only [cnL_i]; omega⟩
instance : Cn1 eMono := ⟨fun _ => by rw [eMono_eta]; simp only [cnL_i]; omega⟩
instance : Cn1 eAnn := ⟨fun _ => by rw [eAnn_eta]; simp only [cnL_i]; omega⟩
instance : Cn1 eDecl := ⟨fun _ => by rw [eDecl_eta]; simp only [cnL_s]; omega⟩
instance : Cn1 eTData := ⟨fun _ => by rw [eTData_eta]; simp only [cnL_s]; omega⟩
instance : Cn1 eGn := ⟨fun _ => by rw [eGn_eta]; simp only [cnL_s]; omega⟩
instance : Cn1 eKd := ⟨fun _ => by rw [eKd_eta]; simp only [cnL_s]; omega⟩
instance : Cn1 eHd := ⟨fun _ => by rw [eHd_eta]; simp only [cnL_i]; omega⟩
instance : Cn1 eCmp := ⟨fun _ => by rw [eCmp_eta]; simp only [slI, cnL_l, cnL_i]; omega⟩
instance : Cn1 eFC := ⟨fun _ => by rw [eFC_eta]; simp only [cnL_i]; omega⟩
theorem cnL_len {α : Type} {E : α → List IV} [c : Cn1 E] : ∀ {xs : List α}, xs.length ≤ cnL (xs.flatMap E)
  | [] => by simp
  | x :: r => by
    have h1 := c.one x
    have h2 := cnL_len (E := E) (xs := r)
    rw [List.flatMap_cons, cnL_append, List.length_cons]; omega
theorem Ty.lt_args (t : Ty) : SizeOf.sizeOf t.args < SizeOf.sizeOf t := by cases t; simp only [Ty.mk.sizeOf_spec, Ty.args]; omega
theorem Val.lt_args (t : Val) : SizeOf.sizeOf t.args < SizeOf.sizeOf t := by cases t; simp only [Val.mk.sizeOf_spec, Val.args]; omega
theorem Tm.lt_args (t : Tm) : SizeOf.sizeOf t.args < SizeOf.sizeOf t := by cases t; simp only [Tm.mk.sizeOf_spec, Tm.args]; omega
theorem Pl.lt_args (t : Pl) : SizeOf.sizeOf t.args < SizeOf.sizeOf t := by cases t; simp only [Pl.mk.sizeOf_spec, Pl.args]; omega
theorem Hd.lt_parts (t : Hd) : SizeOf.sizeOf t.parts < SizeOf.sizeOf t := by cases t; simp only [Hd.mk.sizeOf_spec, Hd.parts]; omega
theorem Hd.lt_query (t : Hd) : SizeOf.sizeOf t.query < SizeOf.sizeOf t := by cases t; simp only [Hd.mk.sizeOf_spec, Hd.query]; omega
theorem Cmp.lt_parts (t : Cmp) : SizeOf.sizeOf t.head.parts < SizeOf.sizeOf t := by have := Cmp.memH t; have := Hd.lt_parts t.head; omega
theorem Cmp.lt_query (t : Cmp) : SizeOf.sizeOf t.head.query < SizeOf.sizeOf t := by have := Cmp.memH t; have := Hd.lt_query t.head; omega
/-! The cells of a row, from an element on. -/
theorem ivl {A B : List IV} : (A ++ B).length = A.length + B.length := List.length_append
theorem iv0 {a v : IV} {l : List IV} : (a :: l).set 0 v = v :: l := rfl
theorem ivs {a v : IV} {l : List IV} {n : Nat} : (a :: l).set (n + 1) v = a :: l.set n v := rfl
theorem mid_set {A : List IV} {m : Nat} (c : Nat) (h : A.length = m) (D : List IV) (v : IV) : (A ++ D).set (m + c) v = A ++ D.set c v := by
  subst h
  rw [List.set_append_right _ _ (by omega), Nat.add_sub_cancel_left]
theorem mid_set0 {A : List IV} {m : Nat} (h : A.length = m) (D : List IV) (v : IV) : (A ++ D).set m v = A ++ D.set 0 v := mid_set 0 h D v
theorem mid_get {A : List IV} {m : Nat} (c : Nat) (h : A.length = m) (D : List IV) : (A ++ D)[m + c]? = D[c]? := by
  subst h
  rw [List.getElem?_append_right (by omega), Nat.add_sub_cancel_left]
theorem mid_get0 {A : List IV} {m : Nat} (h : A.length = m) (D : List IV) : (A ++ D)[m]? = D[0]? := mid_get 0 h D
theorem mid_drop {A D : List IV} {m : Nat} (h : A.length = m) : (A ++ D).drop m = D := List.drop_left' h
end Go.VC
/- Functions on texts and numbers: what each returns. -/
namespace Go.VC.T
open Go Go.VC Go.Proofs Go.VC.F
set_option linter.unusedSimpArgs false
set_option linter.unusedVariables false
set_option linter.defProp false
set_option maxRecDepth 100000
def fc70A1 := (And.intro (And.intro (And.intro (And.intro sz3 ag3) (And.intro zv3 un3)) (And.intro (And.intro sz4 ag4) (And.intro zv4 (And.intro un4 sz9)))) (And.intro (And.intro (And.intro ag9 zv9) (And.intro un9 (And.intro sz51 ag51))) (And.intro (And.intro zv51 sb51) (And.intro un51 (And.intro el51 ap51)))))
theorem eqStringS_ok (xs ys : List ByteArray) (hx : xs.length ≤ 2^48) : FnS Tryd.prog 70 [] [slT eS xs, slT eS ys] [] (bT (decide (xs = ys))) := by
  refine FnS.go [0, 1, 4, 5, 10, 14, 25] [] Tryd.func70 rfl (fun kt kz => ?_)
  have fcx := fc70A1
  simp only [Tryd.f70]
  refine Run (cast_succ) ?_; repeat' (first | (with_reducible exact True.intro) | (with_reducible refine Lf.mk ?_ ?_) | (with_reducible intro hb))
  · have : xs ≠ ys := fun h => hb (by rw [h])
    simp [this]
  · have hl : xs.length = ys.length := by omega
    refine Trn (α := Nat) [4, 5, 11, 12, 13, 14, 15, 16, 17, 18, 19, 20, 21, 22, 23, 24, 25] (fun i => [(5, iT i)]) (fun i => []) (fun i => i ≤ xs.length ∧ xs.take i = ys.take i) (fun i => xs.length - i) (0) (⟨Nat.zero_le _, rfl⟩) (cast_succ) ?_; intro lx hI; obtain i := lx; (try simp only [List.nil_append, List.cons_append] at hI ⊢)
    refine Run (@eS.eq_1) ?_; repeat' (first | (with_reducible exact True.intro) | (with_reducible refine Lf.mk ?_ ?_) | (with_reducible intro hb))
    · have : xs ≠ ys := fun h => hb (by subst h; rfl)
      simp [this]
    · exact Nxt (cast_succ) (lx + 1) (⟨by omega, take_eq_at hI.2 (by omega) (by omega) hb⟩) (by first | omega | (simp; omega))
    · have : xs = ys := by
        have h := hI.2
        rw [List.take_of_length_le (by omega), List.take_of_length_le (by omega)] at h; exact h
      simp [this]
def fc63A1 := (And.intro (And.intro (And.intro (And.intro sz3 ag3) (And.intro zv3 un3)) (And.intro (And.intro sz4 ag4) (And.intro zv4 (And.intro un4 sz9)))) (And.intro (And.intro (And.intro ag9 zv9) (And.intro un9 (And.intro sz51 ag51))) (And.intro (And.intro zv51 sb51) (And.intro un51 (And.intro el51 ap51)))))
theorem toStringS_ow (xs : List ByteArray) (hx : xs.length ≤ 2^40) : FnS Tryd.prog 63 [] [slT eS xs] [(14, .vec 9 1 xs.length (xs.flatMap eS) true)] (.c (.os 14 xs.length)) := by
  refine FnS.go [0, 2, 3, 4, 11] [] Tryd.func63 rfl (fun kt kz => ?_)
  have fcx := fc63A1
  simp only [Tryd.f63]
  refine Run (cast_succ) ?_; repeat' (first | (with_reducible exact True.intro) | (with_reducible refine Lf.mk ?_ ?_) | (with_reducible intro hb))
  refine Trn (α := Nat) [4, 8, 9, 10, 11, 12, 13, 14, 15, 16, 17, 18, 19, 20] (fun i => [(4, iT i), (3, .c (.os 14 xs.length))]) (fun i => [(14, .vec 9 1 xs.length (filled eS [.sc (.string ⟨#[]⟩)] xs i) true)]) (fun i => i ≤ xs.length) (fun i => xs.length - i) (0) (Nat.zero_le _) (cast_succ) ?_; intro lx hI; obtain i := lx; (try simp only [List.nil_append, List.cons_append] at hI ⊢)
  refine Run (@eS.eq_1) ?_; repeat' (first | (with_reducible exact True.intro) | (with_reducible refine Lf.mk ?_ ?_) | (with_reducible intro hb))
  · exact Nxt (cast_succ) (lx + 1) (by omega) (by first | omega | (simp; omega))

theorem toStringS_o (xs : List ByteArray) (hx : okLs (2^20) okS xs) (q : Nat) : FnS Tryd.prog 63 [] [slT eS xs] [(q, .row xs.length (xs.flatMap eS))] (.c (.os q xs.length)) := by
  obtain ⟨p, hp⟩ := pm1 14 q
  refine ((toStringS_ow xs (by have := hx.1; omega)).rows.pm p).as ?_ ?_ <;> simp [rowS, rowO, renS, Ob.ren, TV.ren, Cell.ren, hp]
theorem toStringS_ok (xs : List ByteArray) (hx : xs.length ≤ 2^40) : FnP Tryd.prog 63 [slT eS xs] (slT eS xs) := (toStringS_ow xs hx).tree (by simp -dsimp (maxSteps := 2000000) (disch := omega) only [vs, ↓Option.bind_some, ev1, ofV, scalarB, Kn, Kb, calleeOf, evLoad, ptr, evField, evFieldAddr, shift, ↓pt_at, ↓pt_at1, evExtract, evBin, evLen, evConv, cellsT, noS, Cell.has, Cell.hasN, Cell.anyN, toIV, toIV0, toIVs, ownC, srcM, Ob.own, Ob.esz, allSc, nilK, lenC, ownCell, isPtr, ptrNil, frzO, Cell.frz, Cell.keys, ↓reduceIte, reduceCtorEq, Nat.reduceEqDiff, Nat.reduceBEq, Nat.reduceBNe, Nat.reduceAdd, Nat.reduceMul, Nat.reduceSub, Nat.reduceLT, Nat.reduceLeDiff, Nat.reducePow, Int.reduceLT, Int.reduceLE, Int.reduceEq, Int.reduceNe, quietB, Nat.reduceMod, Int.reduceToNat, ne_eq, eq_self, exists_const, evBytes, byRow, byL, byStr_size, ifsz, ByteArray.size_append, Option.none_or, Option.some_or, evLook, keyD])
end Go.VC.T
/- Data: how they are measured, copied and compared. -/
namespace Go.VC.T
open Go Go.VC Go.Proofs Go.VC.F
set_option linter.unusedSimpArgs false
set_option linter.unusedVariables false
set_option linter.defProp false
set_option maxRecDepth 100000
def fc59A2 := (And.intro (And.intro (And.intro (And.intro sz3 ag3) (And.intro zv3 un3)) (And.intro (And.intro sz4 ag4) (And.intro zv4 (And.intro un4 sz9)))) (And.intro (And.intro (And.intro ag9 zv9) (And.intro un9 (And.intro sz51 ag51))) (And.intro (And.intro zv51 sb51) (And.intro un51 (And.intro el51 ap51)))))
theorem szStringS_ok (xs : List ByteArray) (hx : okLs (2^48) okS xs) (left : Int) (hl : 0 ≤ left ∧ left ≤ 2^20) : FnS Tryd.prog 59 [] [slT eS xs, iT left] [] (iT (szR (zSL xs) left)) := by
  refine FnS.go [0, 1, 4, 5, 11, 15, 26] [] Tryd.func59 rfl (fun kt kz => ?_)
  have fcx := fc59A2
  simp only [Tryd.f59]
  have hx1 := hx.1
  refine Run (cast_succ) ?_; repeat' (first | (with_reducible exact True.intro) | (with_reducible refine Lf.mk ?_ ?_) | (with_reducible intro hb))
  · simp only [zSL, szR_nil hb zL_len]
  · rw [szR_sub hb]
    have hb2 := szR_sub hb ▸ hb
    refine Trn (α := Nat) [1, 4, 5, 12, 13, 14, 15, 16, 17, 18, 19, 20, 21, 22, 23, 24, 25, 26] (fun i => [(5, iT i), (1, iT (szR (zT zS xs i) left))]) (fun i => []) (fun i => i ≤ xs.length ∧ 0 ≤ szR (zT zS xs i) left) (fun i => xs.length - i) (0) (⟨Nat.zero_le _, by rw [zT_zero]; exact hb2⟩) (@zT_zero) ?_; intro lx hI; obtain i := lx; (try simp only [List.nil_append, List.cons_append] at hI ⊢)
    have hz := szR_le (n := zT zS xs lx) hl.1
    by_cases hlt : lx < xs.length
    · have hx2 : zS xs[lx] ≤ 2^48 := okLs_at hx hlt
      have hx3 : xs[lx].size = zS xs[lx] := rfl
      refine Run ((And.intro @eS.eq_1 @hx3)) ?_; repeat' (first | (with_reducible exact True.intro) | (with_reducible refine Lf.mk ?_ ?_) | (with_reducible intro hb))
      · rw [szR_neg (n := zT zS xs (lx + 1)) (by rw [zT_succ hlt, ← szR_add]; unfold szR at *; split <;> omega) zT_le]
      · have e : szR (zT zS xs lx) left - (zS xs[lx] : Int) = szR (zT zS xs (lx + 1)) left := by rw [szR_sub hb, szR_add, ← zT_succ hlt]
        rw [e] at hb
        exact Nxt (@e) (lx + 1) (⟨by omega, hb⟩) (by first | omega | (simp; omega))
      · omega
    · refine Run (cast_succ) ?_; repeat' (first | (with_reducible exact True.intro) | (with_reducible refine Lf.mk ?_ ?_) | (with_reducible intro hb))
      · omega
      · rw [zT_all (by omega)]
theorem eqStringS_rf (xs : List ByteArray) (h : okLs (2^20) okS xs) : FnP Tryd.prog 70 [slT eS xs, slT eS xs] (bT true) := by
  have := eqStringS_ok xs xs (by have := h.1; omega)
  simpa using this

theorem toStringS_rf (xs : List ByteArray) (h : okLs (2^20) okS xs) : FnP Tryd.prog 63 [slT eS xs] (slT eS xs) := toStringS_ok xs (by have := h.1; omega)
end Go.VC.T
/- Reading lists. -/
namespace Go.VC
open Go
theorem rdS {P : Program} {t e : TypeId} {m : Nat} {α : Type} {E : α → List IV} {ok : Nat → α → Prop} {z y : Nat} (ht : P.underlying t = some (.slice e)) (hz : P.cellsOf e = z) (hy : P.bytesOf e = y) (h1 : 1 ≤ y)
    (h : ∀ k, k < m → Rd P e k E (ok (2^48))) : Rd P t m (fun xs : List α => [slI E xs]) (okLs (2^48) ok) := by
  cases m with
  | zero => exact .zero
  | succ m =>
    refine (rd_slice ht hz hy (h m (by omega))).map id (fun _ _ => rfl) fun a h => ⟨?_, h.1⟩
    have h2 := h.2.2.2
    have h3 : a.length ≤ a.length * y := Nat.le_mul_of_pos_right _ (by omega)
    simp [reachBytes] at h2
    show a.length ≤ 2 ^ 48
    omega
theorem rdStr {P : Program} {t : TypeId} {m : Nat} (ht : P.underlying t = some .string) : Rd P t m eS (okS (2^48)) :=
  (rd_string ht m).map id (fun _ _ => rfl) fun a h => by simp [reachBytes] at h; show a.size ≤ 2 ^ 48; omega
theorem rdI {P : Program} {t : TypeId} {m : Nat} (ht : P.underlying t = some (.int .i64)) : Rd P t m (fun n : Int => [.sc (.int .i64 n)]) ok64 :=
  (rd_i64 ht m).map id (fun _ _ => rfl) fun _ h => h
end Go.VC
/- Comparing data: no statement of a program. -/
set_option linter.unusedVariables false
namespace Go.VC
open Go
def numC (a b : Int) : Int := (if b < a then 1 else 0) - (if a < b then 1 else 0)
theorem numC_eq {a b : Int} : numC a b = 0 ↔ a = b := by unfold numC; split <;> split <;> omega
theorem cmpS_bits {x y : ByteArray} (h : x ≠ y) : (if sLt y x = true then (1 : Int) else 0) - (if sLt x y = true then 1 else 0) = cmpS x y := by
  unfold cmpS
  cases h1 : sLt x y with
  | true => rw [sLt_asymm h1]; simp
  | false => rw [sLt_tri h1 h]; simp [h]
theorem cmpL_eq : ∀ {x y : List ByteArray}, cmpL x y = 0 ↔ x = y
  | [], [] => by simp [cmpL]
  | [], _ :: _ => by simp [cmpL]
  | _ :: _, [] => by simp [cmpL]
  | a :: x, b :: y => by
    rw [cmpL]
    by_cases h : a = b
    · simp [h, cmpL_eq (x := x) (y := y)]
    · simp [h, cmpS_eq]
/-- The first that is not zero. -/
def orC : List Int → Int
  | [] => 0
  | x :: r => if x = 0 then orC r else x
mutual
def cmpV : Val → Val → Int
  | .mk k n l a, w => orC [numC k w.kind, numC n w.n, numC a.length w.args.length, cmpL l w.labels, cmpVL a w.args]
def cmpVL : List Val → List Val → Int
  | [], _ => 0
  | x :: r, ys => match ys with
    | [] => 0
    | y :: s => if cmpV x y = 0 then cmpVL r s else cmpV x y
end
theorem cmpV_eta (v w : Val) : cmpV v w = orC [numC v.kind w.kind, numC v.n w.n, numC v.args.length w.args.length, cmpL v.labels w.labels, cmpVL v.args w.args] := by
  cases v with
  | mk k n l a => rw [cmpV]; rfl
mutual
theorem cmpV_eq : ∀ {v w : Val}, cmpV v w = 0 ↔ v = w
  | .mk k n l a, w => by
    rw [cmpV_eta]
    simp only [orC]
    constructor
    · intro h
      split at h
      · rename_i h1
        split at h
        · rename_i h2
          split at h
          · rename_i h3
            split at h
            · rename_i h4
              split at h
              · rename_i h5
                have h3' : a.length = w.args.length := by have := numC_eq.1 h3; exact Int.ofNat.inj this
                exact Val.ext (numC_eq.1 h1) (numC_eq.1 h2) (cmpL_eq.1 h4) ((cmpVL_eq (xs := a) h3').1 h5)
              · contradiction
            · contradiction
          · contradiction
        · contradiction
      · contradiction
    · rintro rfl
      have h5 := (cmpVL_eq (xs := a) (ys := a) rfl).2 rfl
      simp [numC_eq.2 rfl, cmpL_eq.2 rfl, Val.kind, Val.n, Val.args, Val.labels, h5]
theorem cmpVL_eq : ∀ {xs ys : List Val}, xs.length = ys.length → (cmpVL xs ys = 0 ↔ xs = ys)
  | [], ys, h => by
    cases ys with
    | nil => simp [cmpVL]
    | cons => simp at h
  | x :: r, ys, h => by
    cases ys with
    | nil => simp at h
    | cons y s =>
      have h1 := cmpV_eq (v := x) (w := y)
      have h2 := cmpVL_eq (xs := r) (ys := s) (by simpa using h)
      rw [cmpVL]
      by_cases e : cmpV x y = 0
      · rw [if_pos e, h2, h1.1 e]; simp
      · have : x ≠ y := fun q => e (h1.2 q)
        simp [e, this]
end
theorem cmpVL_at {xs ys : List Val} {i : Nat} (hx : i < xs.length) (hy : i < ys.length) : cmpVL (xs.drop i) (ys.drop i) = if cmpV xs[i] ys[i] = 0 then cmpVL (xs.drop (i + 1)) (ys.drop (i + 1)) else cmpV xs[i] ys[i] := by
  rw [drop_at hx, drop_at hy, cmpVL]
theorem cmpVL_nil {xs ys : List Val} {i : Nat} (h : xs.length ≤ i) : cmpVL (xs.drop i) (ys.drop i) = 0 := by
  rw [List.drop_of_length_le h, cmpVL]
end Go.VC
/- Comparisons: what each returns. -/
namespace Go.VC.T
open Go Go.VC Go.Proofs Go.VC.F
set_option linter.unusedSimpArgs false
set_option linter.unusedVariables false
set_option linter.defProp false
set_option maxRecDepth 100000
set_option maxHeartbeats 2000000
def fc82A10 := (And.intro (And.intro (And.intro sz4 ag4) (And.intro zv4 un4)) (And.intro (And.intro sz9 ag9) (And.intro zv9 un9)))
theorem isNaNS_ok (a : ByteArray) : FnS Tryd.prog 82 [] [sT a] [] (bT false) := by
  refine FnS.go [0, 2] [] Tryd.func82 rfl (fun kt kz => ?_)
  have fcx := fc82A10
  simp only [Tryd.f82]
  refine Run (cast_succ) ?_; repeat' (first | (with_reducible exact True.intro) | (with_reducible refine Lf.mk ?_ ?_) | (with_reducible intro hb))
def fc66A10 := (And.intro (And.intro (And.intro sz3 (And.intro ag3 zv3)) (And.intro un3 (And.intro sz4 ag4))) (And.intro (And.intro zv4 (And.intro un4 sz9)) (And.intro (And.intro ag9 zv9) (And.intro un9 okf82))))
theorem cmpCompareS_ok (a b : ByteArray) : FnS Tryd.prog 66 [] [sT a, sT b] [] (iT (cmpS a b)) := by
  refine FnS.go [0, 1, 4, 5, 6, 11, 12, 13, 16, 19] [] Tryd.func66 rfl (fun kt kz => ?_)
  have fcx := fc66A10
  simp only [Tryd.f66]
  refine Run (cast_succ) ?_; repeat' (first | (with_reducible exact True.intro) | (with_reducible refine Lf.mk ?_ ?_) | (with_reducible intro hb))
  refine Cal (cast_succ) (isNaNS_ok a) ?_
  refine Run (cast_succ) ?_; repeat' (first | (with_reducible exact True.intro) | (with_reducible refine Lf.mk ?_ ?_) | (with_reducible intro hb))
  refine Cal (cast_succ) (isNaNS_ok b) ?_
  refine Run (@sGt) ?_; repeat' (first | (with_reducible exact True.intro) | (with_reducible refine Lf.mk ?_ ?_) | (with_reducible intro hb))
  · rw [cmpS, if_pos hb]
  · rename_i h1
    rw [cmpS, if_neg (by simp [h1]), if_neg (by rintro rfl; rw [sLt_irrefl] at hb; cases hb)]
  · rename_i h1
    rw [cmpS, if_neg (by simp [h1]), if_pos (by
      apply Classical.byContradiction; intro hn
      rw [sLt_tri h1 hn] at hb; cases hb)]
def fc61A10 := (And.intro (And.intro (And.intro sz3 ag3) (And.intro zv3 un3)) (And.intro (And.intro sz4 ag4) (And.intro zv4 un4)))
theorem l1Bit_ok (b : Bool) : FnS Tryd.prog 61 [] [bT b] [] (iT (if b then 1 else 0)) := by
  refine FnS.go [0, 2, 3] [] Tryd.func61 rfl (fun kt kz => ?_)
  have fcx := fc61A10
  simp only [Tryd.f61]
  cases b
  · refine Run (cast_succ) ?_; repeat' (first | (with_reducible exact True.intro) | (with_reducible refine Lf.mk ?_ ?_) | (with_reducible intro hb))
  · refine Run (cast_succ) ?_; repeat' (first | (with_reducible exact True.intro) | (with_reducible refine Lf.mk ?_ ?_) | (with_reducible intro hb))
def fc62A10 := (And.intro (And.intro (And.intro sz3 ag3) (And.intro zv3 un3)) (And.intro (And.intro sz4 ag4) (And.intro zv4 (And.intro un4 okf61))))
theorem l5Number_ok (a b : Int) : FnS Tryd.prog 62 [] [iT a, iT b] [] (iT (numC a b)) := by
  refine FnS.go [0, 1, 4] [] Tryd.func62 rfl (fun kt kz => ?_)
  have fcx := fc62A10
  simp only [Tryd.f62]
  refine Run (cast_succ) ?_; repeat' (first | (with_reducible exact True.intro) | (with_reducible refine Lf.mk ?_ ?_) | (with_reducible intro hb))
  refine Cal (cast_succ) (l1Bit_ok (decide (b < a))) ?_
  refine Run (cast_succ) ?_; repeat' (first | (with_reducible exact True.intro) | (with_reducible refine Lf.mk ?_ ?_) | (with_reducible intro hb))
  refine Cal (cast_succ) (l1Bit_ok (decide (a < b))) ?_
  refine Run (cast_succ) ?_; repeat' (first | (with_reducible exact True.intro) | (with_reducible refine Lf.mk ?_ ?_) | (with_reducible intro hb))
  simp [numC]
def fc44A10 := (And.intro (And.intro (And.intro (And.intro sz3 ag3) (And.intro zv3 (And.intro un3 sz4))) (And.intro (And.intro ag4 zv4) (And.intro un4 (And.intro sz9 ag9)))) (And.intro (And.intro (And.intro zv9 un9) (And.intro sz51 (And.intro ag51 zv51))) (And.intro (And.intro sb51 un51) (And.intro el51 (And.intro ap51 okf66)))))
theorem slicesCompare_ok (xs ys : List ByteArray) (hx : xs.length ≤ 2^48) : FnS Tryd.prog 44 [] [slT eS xs, slT eS ys] [] (iT (cmpL xs ys)) := by
  refine FnS.go [0, 1, 4, 5, 6, 7, 8, 9, 10, 11, 12, 19, 28, 35] [] Tryd.func44 rfl (fun kt kz => ?_)
  have fcx := fc44A10
  simp only [Tryd.f44]
  refine Run (cast_succ) ?_; repeat' (first | (with_reducible exact True.intro) | (with_reducible refine Lf.mk ?_ ?_) | (with_reducible intro hb))
  refine Trn (α := Nat) [4, 5, 6, 7, 8, 11, 12, 13, 14, 15, 16, 17, 18, 19, 20, 21, 22, 23, 24, 25, 26, 27, 28, 29, 30] (fun i => [(11, iT i)]) (fun i => []) (fun i => i ≤ xs.length ∧ i ≤ ys.length ∧ cmpL (xs.drop i) (ys.drop i) = cmpL xs ys) (fun i => xs.length - i) (0) (⟨Nat.zero_le _, Nat.zero_le _, rfl⟩) (cast_succ) ?_; intro lx hI; obtain i := lx; (try simp only [List.nil_append, List.cons_append] at hI ⊢)
  have hc := hI.2.2
  by_cases hlt : lx < xs.length
  · by_cases hlt2 : lx < ys.length
    · rw [cmpL_drop (x := xs[lx]) (y := ys[lx]) (by simp [hlt]) (by simp [hlt2])] at hc
      refine Run (@eS.eq_1) ?_; repeat' (first | (with_reducible exact True.intro) | (with_reducible refine Lf.mk ?_ ?_) | (with_reducible intro hb))
      · omega
      · refine Cal (cast_succ) (cmpCompareS_ok xs[lx] ys[lx]) ?_
        refine Run (cast_succ) ?_; repeat' (first | (with_reducible exact True.intro) | (with_reducible refine Lf.mk ?_ ?_) | (with_reducible intro hb))
        · rw [← hc, if_neg fun e => hb (cmpS_eq.2 e)]
        · rw [if_pos (cmpS_eq.1 hb)] at hc
          exact Nxt (cast_succ) (lx + 1) (⟨by omega, by omega, hc⟩) (by first | omega | (simp; omega))
      · omega
    · rw [drop_at hlt, List.drop_of_length_le (l := ys) (by omega)] at hc
      refine Run (@eS.eq_1) ?_; repeat' (first | (with_reducible exact True.intro) | (with_reducible refine Lf.mk ?_ ?_) | (with_reducible intro hb))
      all_goals first | omega | (rw [← hc]; rfl) | skip
  · refine Run (@eS.eq_1) ?_; repeat' (first | (with_reducible exact True.intro) | (with_reducible refine Lf.mk ?_ ?_) | (with_reducible intro hb))
    all_goals first | omega | skip
    · rw [← hc, List.drop_of_length_le (by omega), drop_at (by omega)]; rfl
    · rw [← hc, List.drop_of_length_le (by omega), List.drop_of_length_le (by omega)]; rfl
def fc41A10 := (And.intro (And.intro (And.intro (And.intro sz3 ag3) (And.intro zv3 (And.intro un3 sz4))) (And.intro (And.intro ag4 zv4) (And.intro un4 (And.intro sz9 ag9)))) (And.intro (And.intro (And.intro zv9 un9) (And.intro sz51 (And.intro ag51 zv51))) (And.intro (And.intro sb51 (And.intro un51 el51)) (And.intro ap51 (And.intro okf61 okf62)))))
theorem l5Labels_ok (xs ys : List ByteArray) (hx : xs.length ≤ 2^48) (hy : ys.length ≤ 2^48) : FnS Tryd.prog 41 [] [slT eS xs, slT eS ys] [] (iT (cmpL xs ys)) := by
  refine FnS.go [0, 1, 4, 5, 15, 26] [] Tryd.func41 rfl (fun kt kz => ?_)
  have fcx := fc41A10
  simp only [Tryd.f41]
  refine Run (cast_succ) ?_; repeat' (first | (with_reducible exact True.intro) | (with_reducible refine Lf.mk ?_ ?_) | (with_reducible intro hb))
  refine Trn (α := Nat) [4, 5, 6, 7, 8, 9, 10, 11, 12, 13, 14, 15, 16, 17, 18, 19, 20, 21, 22, 23, 24, 25, 26, 27, 28, 29, 30, 31, 32, 33, 34, 35, 36, 37, 38, 39, 40, 41, 42, 43, 44, 45, 46, 47] (fun i => [(5, iT i)]) (fun i => []) (fun i => i ≤ xs.length ∧ i ≤ ys.length ∧ cmpL (xs.drop i) (ys.drop i) = cmpL xs ys) (fun i => xs.length - i) (0) (⟨Nat.zero_le _, Nat.zero_le _, rfl⟩) (cast_succ) ?_; intro lx hI; obtain i := lx; (try simp only [List.nil_append, List.cons_append] at hI ⊢)
  have hc := hI.2.2
  have hn : ¬ (lx < xs.length ∧ lx < ys.length) → numC xs.length ys.length = cmpL xs ys := by
    intro hq
    by_cases h1 : lx < xs.length
    · have h2 : ¬ lx < ys.length := fun h2 => hq ⟨h1, h2⟩
      rw [← hc, List.drop_of_length_le (l := ys) (by omega), drop_at h1, numC, if_pos (by omega), if_neg (by omega)]; rfl
    · rw [← hc, List.drop_of_length_le (by omega), numC, if_neg (by omega)]
      by_cases h2 : lx < ys.length
      · rw [drop_at h2, if_pos (by omega)]; rfl
      · rw [List.drop_of_length_le (by omega), if_neg (by omega)]; rfl
  by_cases hlt : lx < xs.length
  · by_cases hlt2 : lx < ys.length
    · rw [cmpL_drop (x := xs[lx]) (y := ys[lx]) (by simp [hlt]) (by simp [hlt2])] at hc
      refine Run ((And.intro (And.intro @eS.eq_1 @hlt) (And.intro @hlt2 @sGt))) ?_; repeat' (first | (with_reducible exact True.intro) | (with_reducible refine Lf.mk ?_ ?_) | (with_reducible intro hb))
      · refine Cal ((And.intro @eS.eq_1 @sGt)) (l1Bit_ok (sLt ys[lx] xs[lx])) ?_
        refine Run (cast_succ) ?_; repeat' (first | (with_reducible exact True.intro) | (with_reducible refine Lf.mk ?_ ?_) | (with_reducible intro hb))
        refine Cal ((And.intro @eS.eq_1 @sGt)) (l1Bit_ok (sLt xs[lx] ys[lx])) ?_
        refine Run (cast_succ) ?_; repeat' (first | (with_reducible exact True.intro) | (with_reducible refine Lf.mk ?_ ?_) | (with_reducible intro hb))
        all_goals rw [← hc, if_neg hb, ← cmpS_bits hb]
      · rw [if_pos hb] at hc
        exact Nxt (cast_succ) (lx + 1) (⟨by omega, by omega, hc⟩) (by first | omega | (simp; omega))
    · refine Run ((And.intro @eS.eq_1 (And.intro @hlt @hlt2))) ?_; repeat' (first | (with_reducible exact True.intro) | (with_reducible refine Lf.mk ?_ ?_) | (with_reducible intro hb))
      refine Cal (cast_succ) (l5Number_ok xs.length ys.length) ?_
      refine Run ((And.intro @hn (And.intro @hlt @hlt2))) ?_; repeat' (first | (with_reducible exact True.intro) | (with_reducible refine Lf.mk ?_ ?_) | (with_reducible intro hb))
  · refine Run ((And.intro @eS.eq_1 @hlt)) ?_; repeat' (first | (with_reducible exact True.intro) | (with_reducible refine Lf.mk ?_ ?_) | (with_reducible intro hb))
    refine Cal (cast_succ) (l5Number_ok xs.length ys.length) ?_
    refine Run ((And.intro @hn @hlt)) ?_; repeat' (first | (with_reducible exact True.intro) | (with_reducible refine Lf.mk ?_ ?_) | (with_reducible intro hb))

end Go.VC.T
/- Lists: whether some element has a property, and the first one that has it: no statement of a program. -/
set_option linter.unusedVariables false
namespace Go.VC
open Go
theorem any_at {α : Type} {p : α → Bool} {l : List α} {i : Nat} (h : i < l.length) (hp : p l[i] = true) : l.any p = true := List.any_eq_true.2 ⟨_, List.getElem_mem h, hp⟩
theorem any_take {α : Type} {p : α → Bool} {l : List α} {i : Nat} (h : i < l.length) (ht : (l.take i).any p = false) (hp : p l[i] = false) : (l.take (i + 1)).any p = false := by
  rw [take_at h, List.any_append, ht]; simp [hp]
theorem any_all {α : Type} {p : α → Bool} {l : List α} {i : Nat} (h : l.length ≤ i) (ht : (l.take i).any p = false) : l.any p = false := by
  rwa [List.take_of_length_le h] at ht
theorem all_at {α : Type} {p : α → Bool} {l : List α} {i : Nat} (h : i < l.length) (hp : p l[i] = false) : l.all p = false := by
  cases ha : l.all p with
  | false => rfl
  | true => have := List.all_eq_true.1 ha _ (List.getElem_mem h); rw [hp] at this; cases this
theorem all_take {α : Type} {p : α → Bool} {l : List α} {i : Nat} (h : i < l.length) (ht : (l.take i).all p = true) (hp : p l[i] = true) : (l.take (i + 1)).all p = true := by
  rw [take_at h, List.all_append, ht]; simp [hp]
theorem all_all {α : Type} {p : α → Bool} {l : List α} {i : Nat} (h : l.length ≤ i) (ht : (l.take i).all p = true) : l.all p = true := by
  rwa [List.take_of_length_le h] at ht
/-- The place of the first element with a property; -1 without. -/
def idxI {α : Type} (p : α → Bool) (l : List α) : Int := if l.any p then (l.findIdx p : Int) else -1
theorem idx_at {α : Type} {p : α → Bool} {l : List α} {i : Nat} (h : i < l.length) (ht : (l.take i).any p = false) (hp : p l[i] = true) : idxI p l = i := by
  rw [idxI, if_pos (any_at h hp)]
  congr 1
  rw [List.findIdx_eq h]
  refine ⟨hp, fun j hj => ?_⟩
  have := List.any_eq_false.1 ht l[j] (by
    rw [List.mem_iff_getElem]
    exact ⟨j, by simp; omega, by simp⟩)
  simpa using this
theorem idx_no {α : Type} {p : α → Bool} {l : List α} (h : l.any p = false) : idxI p l = -1 := by rw [idxI, h]; rfl
theorem idx_ge {α : Type} {p : α → Bool} {l : List α} : decide (0 ≤ idxI p l) = l.any p := by
  unfold idxI
  cases l.any p <;> simp
theorem idx_le {α : Type} {p : α → Bool} {l : List α} : -1 ≤ idxI p l ∧ idxI p l < l.length := by
  unfold idxI
  split
  · rename_i h
    obtain ⟨x, hx, hp⟩ := List.any_eq_true.1 h
    have := List.findIdx_lt_length_of_exists ⟨x, hx, hp⟩
    omega
  · omega
end Go.VC
/- Searching lists of texts; sorted lists. -/
namespace Go.VC
open Go
def SortedS (l : List ByteArray) : Prop := ∀ k, (h : k + 1 < l.length) → sLt l[k + 1] (l[k]'(by omega)) = false
noncomputable instance (l : List ByteArray) : Decidable (SortedS l) := Classical.propDecidable _
end Go.VC
namespace Go.VC.T
open Go Go.VC Go.Proofs Go.VC.F
set_option linter.unusedSimpArgs false
set_option linter.unusedVariables false
set_option linter.defProp false
set_option maxRecDepth 100000
set_option maxHeartbeats 2000000
def fc80A23 := (And.intro (And.intro (And.intro (And.intro sz3 ag3) (And.intro zv3 un3)) (And.intro (And.intro sz4 ag4) (And.intro zv4 (And.intro un4 sz9)))) (And.intro (And.intro (And.intro ag9 zv9) (And.intro un9 (And.intro sz51 ag51))) (And.intro (And.intro zv51 sb51) (And.intro un51 (And.intro el51 ap51)))))
theorem slIdxS_ok (xs : List ByteArray) (s : ByteArray) (hx : xs.length ≤ 2^48) : FnS Tryd.prog 80 [] [slT eS xs, sT s] [] (iT (idxI (fun x => decide (x = s)) xs)) := by
  refine FnS.go [0, 1, 4, 5, 7, 8, 9, 16] [] Tryd.func80 rfl (fun kt kz => ?_)
  have fcx := fc80A23
  simp only [Tryd.f80]
  refine Run (cast_succ) ?_; repeat' (first | (with_reducible exact True.intro) | (with_reducible refine Lf.mk ?_ ?_) | (with_reducible intro hb))
  refine Trn (α := Nat) [4, 5, 8, 9, 10, 11, 12, 13, 14, 15, 16, 17, 18] (fun i => [(8, iT i)]) (fun i => []) (fun i => i ≤ xs.length ∧ (xs.take i).any (fun x => decide (x = s)) = false) (fun i => xs.length - i) (0) (⟨Nat.zero_le _, rfl⟩) (cast_succ) ?_; intro lx hI; obtain i := lx; (try simp only [List.nil_append, List.cons_append] at hI ⊢)
  by_cases hlt : lx < xs.length
  · refine Run ((And.intro @hlt @eS.eq_1)) ?_; repeat' (first | (with_reducible exact True.intro) | (with_reducible refine Lf.mk ?_ ?_) | (with_reducible intro hb))
    · rw [idx_at (p := fun x => decide (x = s)) hlt hI.2 (by simpa using hb.symm)]
    · exact Nxt (cast_succ) (lx + 1) (⟨by omega, any_take hlt hI.2 (by simpa using fun h => hb h.symm)⟩) (by first | omega | (simp; omega))
  · have ha := any_all (by omega) hI.2
    refine Run (@hlt) ?_; repeat' (first | (with_reducible exact True.intro) | (with_reducible refine Lf.mk ?_ ?_) | (with_reducible intro hb))
    rw [idx_no ha]
def fc64A23 := (And.intro (And.intro (And.intro (And.intro sz3 ag3) (And.intro zv3 (And.intro un3 sz4))) (And.intro (And.intro ag4 zv4) (And.intro un4 (And.intro sz9 ag9)))) (And.intro (And.intro (And.intro zv9 un9) (And.intro sz51 (And.intro ag51 zv51))) (And.intro (And.intro sb51 un51) (And.intro el51 (And.intro ap51 okf80)))))
theorem slHasS_ok (xs : List ByteArray) (s : ByteArray) (hx : xs.length ≤ 2^48) : FnS Tryd.prog 64 [] [slT eS xs, sT s] [] (bT (xs.any (fun x => decide (x = s)))) := by
  refine FnS.go [0, 1, 4] [] Tryd.func64 rfl (fun kt kz => ?_)
  have fcx := fc64A23
  simp only [Tryd.f64]
  refine Run (cast_succ) ?_; repeat' (first | (with_reducible exact True.intro) | (with_reducible refine Lf.mk ?_ ?_) | (with_reducible intro hb))
  refine Cal (cast_succ) (slIdxS_ok xs s hx) ?_
  refine Run ((idx_ge (p := fun x => decide (x = s)) (l := xs))) ?_; repeat' (first | (with_reducible exact True.intro) | (with_reducible refine Lf.mk ?_ ?_) | (with_reducible intro hb))
def fc104A23 := (And.intro (And.intro (And.intro (And.intro sz3 ag3) (And.intro zv3 (And.intro un3 sz4))) (And.intro (And.intro ag4 (And.intro zv4 un4)) (And.intro sz9 (And.intro ag9 zv9)))) (And.intro (And.intro (And.intro un9 sz51) (And.intro ag51 (And.intro zv51 sb51))) (And.intro (And.intro un51 (And.intro el51 ap51)) (And.intro sz114 (And.intro ag114 zv114)))))
theorem slIdxFS_ok (g : Nat) (hg : fnOk Tryd.prog g = true) (c : IV) (p : ByteArray → Bool) (xs : List ByteArray) (hx : xs.length ≤ 2^48) (H : ∀ x ∈ xs, FnP Tryd.prog g [sT x, .c (.im c)] (bT (p x))) : FnS Tryd.prog 104 [] [slT eS xs, .c (.im (.fn g [c]))] [] (iT (idxI p xs)) := by
  refine FnS.go [0, 1, 4, 5, 7, 8, 9, 16] [] Tryd.func104 rfl (fun kt kz => ?_)
  have fcx := fc104A23
  simp only [Tryd.f104]
  refine Run (cast_succ) ?_; repeat' (first | (with_reducible exact True.intro) | (with_reducible refine Lf.mk ?_ ?_) | (with_reducible intro hb))
  refine Trn (α := Nat) [4, 5, 8, 9, 10, 11, 12, 13, 14, 15, 16, 17, 18] (fun i => [(8, iT i)]) (fun i => []) (fun i => i ≤ xs.length ∧ (xs.take i).any p = false) (fun i => xs.length - i) (0) (⟨Nat.zero_le _, rfl⟩) (cast_succ) ?_; intro lx hI; obtain i := lx; (try simp only [List.nil_append, List.cons_append] at hI ⊢)
  by_cases hlt : lx < xs.length
  · refine Run ((And.intro @hlt (And.intro @eS.eq_1 @hg))) ?_; repeat' (first | (with_reducible exact True.intro) | (with_reducible refine Lf.mk ?_ ?_) | (with_reducible intro hb))
    refine Cal (cast_succ) (H _ (List.getElem_mem hlt)) ?_
    refine Run (cast_succ) ?_; repeat' (first | (with_reducible exact True.intro) | (with_reducible refine Lf.mk ?_ ?_) | (with_reducible intro hb))
    · rw [idx_at hlt hI.2 hb]
    · exact Nxt (cast_succ) (lx + 1) (⟨by omega, any_take hlt hI.2 hb⟩) (by first | omega | (simp; omega))
  · have ha := any_all (by omega) hI.2
    refine Run (@hlt) ?_; repeat' (first | (with_reducible exact True.intro) | (with_reducible refine Lf.mk ?_ ?_) | (with_reducible intro hb))
    rw [idx_no ha]
def fc96A23 := (And.intro (And.intro (And.intro (And.intro sz3 ag3) (And.intro zv3 un3)) (And.intro (And.intro sz4 ag4) (And.intro zv4 (And.intro un4 sz51)))) (And.intro (And.intro (And.intro ag51 zv51) (And.intro sb51 (And.intro un51 el51))) (And.intro (And.intro ap51 sz114) (And.intro ag114 (And.intro zv114 okf104)))))
theorem slHasFS_ok (g : Nat) (hg : fnOk Tryd.prog g = true) (c : IV) (p : ByteArray → Bool) (xs : List ByteArray) (hx : xs.length ≤ 2^48) (H : ∀ x ∈ xs, FnP Tryd.prog g [sT x, .c (.im c)] (bT (p x))) : FnS Tryd.prog 96 [] [slT eS xs, .c (.im (.fn g [c]))] [] (bT (xs.any p)) := by
  refine FnS.go [0, 1, 4] [] Tryd.func96 rfl (fun kt kz => ?_)
  have fcx := fc96A23
  simp only [Tryd.f96]
  refine Run (cast_succ) ?_; repeat' (first | (with_reducible exact True.intro) | (with_reducible refine Lf.mk ?_ ?_) | (with_reducible intro hb))
  refine Cal (cast_succ) (slIdxFS_ok g hg c p xs hx H) ?_
  refine Run ((idx_ge (p := p) (l := xs))) ?_; repeat' (first | (with_reducible exact True.intro) | (with_reducible refine Lf.mk ?_ ?_) | (with_reducible intro hb))
def fc81A23 := (And.intro (And.intro (And.intro sz4 ag4) (And.intro zv4 un4)) (And.intro (And.intro sz9 ag9) (And.intro zv9 (And.intro un9 okf82))))
theorem cmpLess_ok (x y : ByteArray) : FnS Tryd.prog 81 [] [sT x, sT y] [] (bT (sLt x y)) := by
  refine FnS.go [0, 1, 4] [] Tryd.func81 rfl (fun kt kz => ?_)
  have fcx := fc81A23
  simp only [Tryd.f81]
  refine Run (cast_succ) ?_; repeat' (first | (with_reducible exact True.intro) | (with_reducible refine Lf.mk ?_ ?_) | (with_reducible intro hb))
  refine Cal (cast_succ) (isNaNS_ok x) ?_
  refine Run (cast_succ) ?_; repeat' (first | (with_reducible exact True.intro) | (with_reducible refine Lf.mk ?_ ?_) | (with_reducible intro hb))
def fc65A23 := (And.intro (And.intro (And.intro (And.intro sz3 ag3) (And.intro zv3 (And.intro un3 sz4))) (And.intro (And.intro ag4 zv4) (And.intro un4 (And.intro sz9 ag9)))) (And.intro (And.intro (And.intro zv9 un9) (And.intro sz51 (And.intro ag51 zv51))) (And.intro (And.intro sb51 un51) (And.intro el51 (And.intro ap51 okf81)))))
theorem slSortedS_ok (xs : List ByteArray) (hx : xs.length ≤ 2^48) : FnS Tryd.prog 65 [] [slT eS xs] [] (bT (decide (SortedS xs))) := by
  refine FnS.go [0, 2, 3, 8, 20] [] Tryd.func65 rfl (fun kt kz => ?_)
  have fcx := fc65A23
  simp only [Tryd.f65]
  by_cases h0 : xs = []
  · subst h0
    refine Run (cast_succ) ?_; repeat' (first | (with_reducible exact True.intro) | (with_reducible refine Lf.mk ?_ ?_) | (with_reducible intro hb))
    refine Trn (α := Nat) [2, 3, 7, 8, 9, 10, 11, 12, 13, 14, 15, 16, 17, 18, 19, 20] (fun i => [(3, iT (((0 : Nat) : Int) - 1))]) (fun i => []) (fun i => True) (fun i => i) (0) (trivial) (cast_succ) ?_; intro lx hI; obtain i := lx; (try simp only [List.nil_append, List.cons_append] at hI ⊢)
    refine Run (cast_succ) ?_; repeat' (first | (with_reducible exact True.intro) | (with_reducible refine Lf.mk ?_ ?_) | (with_reducible intro hb))
    · omega
    · rw [decide_eq_true (show SortedS [] from fun k h => by simp at h)]
  · have hl : 0 < xs.length := List.length_pos_iff.2 h0
    refine Run (cast_succ) ?_; repeat' (first | (with_reducible exact True.intro) | (with_reducible refine Lf.mk ?_ ?_) | (with_reducible intro hb))
    refine Trn (α := Nat) [2, 3, 7, 8, 9, 10, 11, 12, 13, 14, 15, 16, 17, 18, 19, 20] (fun i => [(3, iT (i : Int))]) (fun i => []) (fun i => i < xs.length ∧ ∀ k, (h : k + 1 < xs.length) → i ≤ k → sLt xs[k + 1] (xs[k]'(by omega)) = false) (fun i => i) (xs.length - 1) (⟨by omega, fun k h hk => by omega⟩) ((show ((xs.length - 1 : Nat) : Int) = (xs.length : Int) - 1 by omega)) ?_; intro lx hI; obtain i := lx; (try simp only [List.nil_append, List.cons_append] at hI ⊢)
    by_cases hp : 0 < lx
    · have hz : (0 : Int) < (lx : Int) := by omega
      refine Run ((And.intro @hz @eS.eq_1)) ?_; repeat' (first | (with_reducible exact True.intro) | (with_reducible refine Lf.mk ?_ ?_) | (with_reducible intro hb))
      refine Cal (cast_succ) (cmpLess_ok xs[lx] xs[lx - 1]) ?_
      refine Run (cast_succ) ?_; repeat' (first | (with_reducible exact True.intro) | (with_reducible refine Lf.mk ?_ ?_) | (with_reducible intro hb))
      · rw [decide_eq_false fun hs => by
          have h1 := hs (lx - 1) (by omega)
          have e : lx - 1 + 1 = lx := by omega
          simp only [e] at h1
          rw [hb] at h1; cases h1]
      · exact Nxt ((show ((lx - 1 : Nat) : Int) = (lx : Int) - 1 by omega)) (lx - 1) (⟨by omega, fun k h hk => by
          by_cases hk2 : lx ≤ k
          · exact hI.2 k h hk2
          · have e : k = lx - 1 := by omega
            subst e
            have e : lx - 1 + 1 = lx := by omega
            simp only [e]
            exact hb⟩) (by omega)
    · have hz : ¬ (0 : Int) < (lx : Int) := by omega
      refine Run (@hz) ?_; repeat' (first | (with_reducible exact True.intro) | (with_reducible refine Lf.mk ?_ ?_) | (with_reducible intro hb))
      rw [decide_eq_true (show SortedS xs from fun k h => hI.2 k h (by omega))]

end Go.VC.T
/- Data (Mono): how they are measured, copied and compared. -/
namespace Go.VC.T
open Go Go.VC Go.Proofs Go.VC.F
set_option linter.unusedSimpArgs false
set_option linter.unusedVariables false
set_option linter.defProp false
set_option maxRecDepth 100000
set_option maxHeartbeats 2000000
def fc39SMono := (And.intro (And.intro (And.intro (And.intro sz3 ag3) (And.intro zv3 (And.intro un3 sz4))) (And.intro (And.intro ag4 (And.intro zv4 un4)) (And.intro sz51 (And.intro ag51 zv51)))) (And.intro (And.intro (And.intro sb51 un51) (And.intro el51 (And.intro ap51 sz75))) (And.intro (And.intro ag75 (And.intro zv75 fl75_0)) (And.intro fl75_1 (And.intro pl75 okf59)))))
theorem szMono_ok (t : Mono) (h : okMono (2^48) t) (left : Int) (hl : 0 ≤ left ∧ left ≤ 2^20) : FnS Tryd.prog 39 [] [agT (eMono t), iT left] [] (iT (szR (zMono t) left)) := by
  refine FnS.go [0, 1, 2, 4, 10] [] Tryd.func39 rfl (fun kt kz => ?_)
  have fcx := fc39SMono
  simp only [Tryd.f39]
  have ho := okMono_iff.1 h
  refine Run ((And.intro @eMono_eta @szR_add)) ?_; repeat' (first | (with_reducible exact True.intro) | (with_reducible refine Lf.mk ?_ ?_) | (with_reducible intro hb))
  refine Cal ((And.intro @eMono_eta @szR_add)) (szStringS_ok _ ho.2 _ hl) ?_
  have hz := szR_le (n := zSL t.vars) hl.1
  refine Run ((And.intro @eMono_eta @szR_add)) ?_; repeat' (first | (with_reducible exact True.intro) | (with_reducible refine Lf.mk ?_ ?_) | (with_reducible intro hb))
  · congr 4; have s1 := szR_spec (zSL t.vars) left; have s2 := szR_spec (zMono t) left; rw [zMono_eta] at s2 ⊢; omega
  · skip
    rw [zMono_eta]
def fc24SMono := (And.intro (And.intro (And.intro (And.intro sz3 ag3) (And.intro zv3 (And.intro un3 sz4))) (And.intro (And.intro ag4 (And.intro zv4 un4)) (And.intro sz30 (And.intro ag30 zv30)))) (And.intro (And.intro (And.intro sb30 (And.intro un30 el30)) (And.intro ap30 (And.intro sz75 ag75))) (And.intro (And.intro zv75 (And.intro fl75_0 fl75_1)) (And.intro pl75 (And.intro okf39 sz51)))))
theorem szMonoS_of (xs : List Mono) (hx : okLs (2^48) okMono xs) (H : ∀ t ∈ xs, ∀ left : Int, 0 ≤ left ∧ left ≤ 2^20 → FnP Tryd.prog 39 [agT (eMono t), iT left] (iT (szR (zMono t) left))) (left : Int) (hl : 0 ≤ left ∧ left ≤ 2^20) : FnS Tryd.prog 24 [] [slT eMono xs, iT left] [] (iT (szR (zL zMono xs) left)) := by
  refine FnS.go [0, 1, 4, 5, 11, 15, 25] [] Tryd.func24 rfl (fun kt kz => ?_)
  have fcx := fc24SMono
  simp only [Tryd.f24]
  have hx1 := hx.1
  refine Run (cast_succ) ?_; repeat' (first | (with_reducible exact True.intro) | (with_reducible refine Lf.mk ?_ ?_) | (with_reducible intro hb))
  · simp only [szR_nil hb zL_len]
  · rw [szR_sub hb]
    have hb2 := szR_sub hb ▸ hb
    refine Trn (α := Nat) [1, 4, 5, 12, 13, 14, 15, 16, 17, 18, 19, 20, 21, 22, 23, 24, 25] (fun i => [(5, iT i), (1, iT (szR (zT zMono xs i) left))]) (fun i => []) (fun i => i ≤ xs.length ∧ 0 ≤ szR (zT zMono xs i) left) (fun i => xs.length - i) (0) (⟨Nat.zero_le _, by rw [zT_zero]; exact hb2⟩) ((zT_zero (z := zMono) (l := xs))) ?_; intro lx hI; obtain i := lx; (try simp only [List.nil_append, List.cons_append] at hI ⊢)
    have hz := szR_le (n := zT zMono xs lx) hl.1
    by_cases hlt : lx < xs.length
    · have e : szR (zMono xs[lx]) (szR (zT zMono xs lx) left) = szR (zT zMono xs (lx + 1)) left := by rw [zT_succ hlt, ← szR_add]
      refine Run (@eMono_eta) ?_; repeat' (first | (with_reducible exact True.intro) | (with_reducible refine Lf.mk ?_ ?_) | (with_reducible intro hb))
      · refine Cal (@eMono_eta) (H _ (List.getElem_mem hlt) _ ⟨hI.2, by omega⟩) ?_
        refine Run (cast_succ) ?_; repeat' (first | (with_reducible exact True.intro) | (with_reducible refine Lf.mk ?_ ?_) | (with_reducible intro hb))
        · rw [e] at hb
          rw [szR_neg hb zT_le]
        · rw [e] at hb
          exact Nxt (@e) (lx + 1) (⟨by omega, hb⟩) (by first | omega | (simp; omega))
      · omega
    · refine Run (cast_succ) ?_; repeat' (first | (with_reducible exact True.intro) | (with_reducible refine Lf.mk ?_ ?_) | (with_reducible intro hb))
      · omega
      · rw [zT_all (by omega)]

theorem szMonoS_ok (xs : List Mono) (h : okLs (2^48) okMono xs) (left : Int) (hl : 0 ≤ left ∧ left ≤ 2^20) : FnP Tryd.prog 24 [slT eMono xs, iT left] (iT (szR (zL zMono xs) left)) := szMonoS_of xs h (fun t ht left hl => szMono_ok t (h.2 t ht) left hl) left hl
def fc42SMono := (And.intro (And.intro (And.intro (And.intro sz3 (And.intro ag3 zv3)) (And.intro un3 (And.intro sz51 ag51))) (And.intro (And.intro zv51 (And.intro sb51 un51)) (And.intro el51 (And.intro ap51 sz53)))) (And.intro (And.intro (And.intro ag53 (And.intro zv53 fl53_0)) (And.intro fl53_1 (And.intro pl53 sz75))) (And.intro (And.intro ag75 (And.intro zv75 fl75_0)) (And.intro fl75_1 (And.intro pl75 okf63)))))
theorem toMono_w (t : Mono) (h : okMono (2^20) t) : FnS Tryd.prog 42 [] [agT (eMono t)] [(1000, .row t.vars.length (t.vars.flatMap eS))] (.ag [.im (.sc (.int .i64 t.coef)), .os 1000 t.vars.length]) := by
  refine FnS.go [0, 1, 2, 3] [] Tryd.func42 rfl (fun kt kz => ?_)
  have fcx := fc42SMono
  simp only [Tryd.f42]
  have ho := okMono_iff.1 h
  refine Run (@eMono_eta) ?_; repeat' (first | (with_reducible exact True.intro) | (with_reducible refine Lf.mk ?_ ?_) | (with_reducible intro hb))
  refine CalI (@eMono_eta) (toStringS_o _ ho.2 1000) ?_
  refine Run (@eMono_eta) ?_; repeat' (first | (with_reducible exact True.intro) | (with_reducible refine Lf.mk ?_ ?_) | (with_reducible intro hb))

theorem toMono_o (t : Mono) (h : okMono (2^20) t) : ∀ q0 : Nat, [q0].Nodup → FnS Tryd.prog 42 [] [agT (eMono t)] [(q0, .row t.vars.length (t.vars.flatMap eS))] (.ag [.im (.sc (.int .i64 t.coef)), .os q0 t.vars.length]) := by
  intro q0 hq
  obtain ⟨p, hp⟩ := pml [1000] [q0] (by decide) hq rfl
  simp only [List.map_cons, List.map_nil, List.cons.injEq, and_true] at hp
  refine ((toMono_w t h).rows.pm p).as ?_ ?_ <;> simp [rowS, rowO, renS, Ob.ren, TV.ren, renL, Cell.ren, hp]
def fc27SMono := (And.intro (And.intro (And.intro (And.intro (And.intro sz3 ag3) (And.intro zv3 un3)) (And.intro (And.intro sz4 ag4) (And.intro zv4 (And.intro un4 sz30)))) (And.intro (And.intro (And.intro ag30 zv30) (And.intro sb30 un30)) (And.intro (And.intro el30 ap30) (And.intro sz35 (And.intro ag35 zv35))))) (And.intro (And.intro (And.intro (And.intro sb35 un35) (And.intro el35 ap35)) (And.intro (And.intro sz53 ag53) (And.intro zv53 (And.intro fl53_0 fl53_1)))) (And.intro (And.intro (And.intro pl53 sz75) (And.intro ag75 zv75)) (And.intro (And.intro fl75_0 fl75_1) (And.intro pl75 (And.intro okf42 sz51))))))
theorem toMonoS_w (xs : List Mono) (hx : okLs (2^20) okMono xs) (H : ∀ t ∈ xs, ∀ q0 : Nat, [q0].Nodup → FnS Tryd.prog 42 [] [agT (eMono t)] [(q0, .row t.vars.length (t.vars.flatMap eS))] (.ag [.im (.sc (.int .i64 t.coef)), .os q0 t.vars.length])) : FnS Tryd.prog 27 [] [slT eMono xs] [(14, .vec 53 2 xs.length (xs.flatMap eMono) true)] (.c (.os 14 xs.length)) := by
  refine FnS.go [0, 2, 3, 4, 11] [] Tryd.func27 rfl (fun kt kz => ?_)
  have fcx := fc27SMono
  simp only [Tryd.f27]
  have hx1 := hx.1
  refine Run (cast_succ) ?_; repeat' (first | (with_reducible exact True.intro) | (with_reducible refine Lf.mk ?_ ?_) | (with_reducible intro hb))
  refine Trn (α := Nat) [4, 8, 9, 10, 11, 12, 13, 14, 15, 16, 17, 18, 19, 20, 21] (fun i => [(4, iT i), (3, .c (.os 14 xs.length))]) (fun i => [(14, .vec 53 2 xs.length (filled eMono [.sc (.int .i64 0), .sl 0 []] xs i) true)]) (fun i => i ≤ xs.length) (fun i => xs.length - i) (0) (Nat.zero_le _) (cast_succ) ?_; intro lx hI; obtain i := lx; (try simp only [List.nil_append, List.cons_append] at hI ⊢)
  refine Run (@eMono_eta) ?_; repeat' (first | (with_reducible exact True.intro) | (with_reducible refine Lf.mk ?_ ?_) | (with_reducible intro hb))
  · refine CalI (@eMono_eta) (H _ (List.getElem_mem hb) 1000 (by decide)) ?_
    refine Run (@eMono_eta) ?_; repeat' (first | (with_reducible exact True.intro) | (with_reducible refine Lf.mk ?_ ?_) | (with_reducible intro hb))
    have hs := filled_step' (E := eMono) (zs := [.sc (.int .i64 0), .sl 0 []]) hb
    simp only [eMono_eta, setL_st, stL_one, slI] at hs
    exact Nxt (@hs) (lx + 1) (by omega) (by first | omega | (simp; omega))

theorem toMonoS_q (xs : List Mono) (hx : okLs (2^20) okMono xs) (H : ∀ t ∈ xs, ∀ q0 : Nat, [q0].Nodup → FnS Tryd.prog 42 [] [agT (eMono t)] [(q0, .row t.vars.length (t.vars.flatMap eS))] (.ag [.im (.sc (.int .i64 t.coef)), .os q0 t.vars.length])) (q : Nat) : FnS Tryd.prog 27 [] [slT eMono xs] [(q, .row xs.length (xs.flatMap eMono))] (.c (.os q xs.length)) := by
  obtain ⟨p, hp⟩ := pm1 14 q
  refine ((toMonoS_w xs hx H).rows.pm p).as ?_ ?_ <;> simp [rowS, rowO, renS, Ob.ren, TV.ren, Cell.ren, hp]

theorem toMonoS_o (xs : List Mono) (h : okLs (2^20) okMono xs) (q : Nat) : FnS Tryd.prog 27 [] [slT eMono xs] [(q, .row xs.length (xs.flatMap eMono))] (.c (.os q xs.length)) := toMonoS_q xs h (fun t ht => toMono_o t (h.2 t ht)) q
def fc50SMono := (And.intro (And.intro (And.intro (And.intro sz3 ag3) (And.intro zv3 (And.intro un3 sz4))) (And.intro (And.intro ag4 (And.intro zv4 un4)) (And.intro sz51 (And.intro ag51 zv51)))) (And.intro (And.intro (And.intro sb51 un51) (And.intro el51 (And.intro ap51 sz53))) (And.intro (And.intro ag53 (And.intro zv53 fl53_0)) (And.intro fl53_1 (And.intro pl53 okf70)))))
theorem eqMono_ok (t : Mono) (h : okMono (2^20) t) : FnS Tryd.prog 50 [] [agT (eMono t), agT (eMono t)] [] (bT true) := by
  refine FnS.go [0, 1, 2, 3, 4, 9, 15] [] Tryd.func50 rfl (fun kt kz => ?_)
  have fcx := fc50SMono
  simp only [Tryd.f50]
  have ho := okMono_iff.1 h
  refine Run (@eMono_eta) ?_; repeat' (first | (with_reducible exact True.intro) | (with_reducible refine Lf.mk ?_ ?_) | (with_reducible intro hb))
  refine Cal (@eMono_eta) (eqStringS_rf _ ho.2) ?_
  refine Run (@eMono_eta) ?_; repeat' (first | (with_reducible exact True.intro) | (with_reducible refine Lf.mk ?_ ?_) | (with_reducible intro hb))
def fc32SMono := (And.intro (And.intro (And.intro (And.intro sz3 ag3) (And.intro zv3 (And.intro un3 sz4))) (And.intro (And.intro ag4 (And.intro zv4 un4)) (And.intro sz35 (And.intro ag35 zv35)))) (And.intro (And.intro (And.intro sb35 (And.intro un35 el35)) (And.intro ap35 (And.intro sz53 ag53))) (And.intro (And.intro zv53 (And.intro fl53_0 fl53_1)) (And.intro pl53 (And.intro okf50 sz51)))))
theorem eqMonoS_of (xs : List Mono) (hx : okLs (2^20) okMono xs) (H : ∀ t ∈ xs, FnP Tryd.prog 50 [agT (eMono t), agT (eMono t)] (bT true)) : FnS Tryd.prog 32 [] [slT eMono xs, slT eMono xs] [] (bT true) := by
  refine FnS.go [0, 1, 4, 5, 10, 14, 26] [] Tryd.func32 rfl (fun kt kz => ?_)
  have fcx := fc32SMono
  simp only [Tryd.f32]
  have hx1 := hx.1
  refine Run (cast_succ) ?_; repeat' (first | (with_reducible exact True.intro) | (with_reducible refine Lf.mk ?_ ?_) | (with_reducible intro hb))
  refine Trn (α := Nat) [4, 5, 11, 12, 13, 14, 15, 16, 17, 18, 19, 20, 21, 22, 23, 24, 25, 26] (fun i => [(5, iT i)]) (fun i => []) (fun i => i ≤ xs.length) (fun i => xs.length - i) (0) (Nat.zero_le _) (cast_succ) ?_; intro lx hI; obtain i := lx; (try simp only [List.nil_append, List.cons_append] at hI ⊢)
  refine Run (@eMono_eta) ?_; repeat' (first | (with_reducible exact True.intro) | (with_reducible refine Lf.mk ?_ ?_) | (with_reducible intro hb))
  · refine Cal (@eMono_eta) (H _ (List.getElem_mem hb)) ?_
    refine Run (@eMono_eta) ?_; repeat' (first | (with_reducible exact True.intro) | (with_reducible refine Lf.mk ?_ ?_) | (with_reducible intro hb))
    exact Nxt (cast_succ) (lx + 1) (by omega) (by first | omega | (simp; omega))

theorem eqMonoS_ok (xs : List Mono) (h : okLs (2^20) okMono xs) : FnP Tryd.prog 32 [slT eMono xs, slT eMono xs] (bT true) := eqMonoS_of xs h (fun t ht => eqMono_ok t (h.2 t ht))
theorem toMono_ok (t : Mono) (h : okMono (2^20) t) : FnP Tryd.prog 42 [agT (eMono t)] (agT (eMono t)) := (toMono_o t h 1000 (by decide)).tree (by simp -dsimp (maxSteps := 2000000) (disch := omega) only [vs, ↓Option.bind_some, ev1, ofV, scalarB, Kn, Kb, calleeOf, evLoad, ptr, evField, evFieldAddr, shift, ↓pt_at, ↓pt_at1, evExtract, evBin, evLen, evConv, cellsT, noS, Cell.has, Cell.hasN, Cell.anyN, toIV, toIV0, toIVs, ownC, srcM, Ob.own, Ob.esz, allSc, nilK, lenC, ownCell, isPtr, ptrNil, frzO, Cell.frz, Cell.keys, ↓reduceIte, reduceCtorEq, Nat.reduceEqDiff, Nat.reduceBEq, Nat.reduceBNe, Nat.reduceAdd, Nat.reduceMul, Nat.reduceSub, Nat.reduceLT, Nat.reduceLeDiff, Nat.reducePow, Int.reduceLT, Int.reduceLE, Int.reduceEq, Int.reduceNe, quietB, Nat.reduceMod, Int.reduceToNat, ne_eq, eq_self, exists_const, evBytes, byRow, byL, byStr_size, ifsz, ByteArray.size_append, Option.none_or, Option.some_or, evLook, keyD, eMono_eta])
theorem toMonoS_ok (xs : List Mono) (h : okLs (2^20) okMono xs) : FnP Tryd.prog 27 [slT eMono xs] (slT eMono xs) := (toMonoS_o xs h 1000).tree (by simp -dsimp (maxSteps := 2000000) (disch := omega) only [vs, ↓Option.bind_some, ev1, ofV, scalarB, Kn, Kb, calleeOf, evLoad, ptr, evField, evFieldAddr, shift, ↓pt_at, ↓pt_at1, evExtract, evBin, evLen, evConv, cellsT, noS, Cell.has, Cell.hasN, Cell.anyN, toIV, toIV0, toIVs, ownC, srcM, Ob.own, Ob.esz, allSc, nilK, lenC, ownCell, isPtr, ptrNil, frzO, Cell.frz, Cell.keys, ↓reduceIte, reduceCtorEq, Nat.reduceEqDiff, Nat.reduceBEq, Nat.reduceBNe, Nat.reduceAdd, Nat.reduceMul, Nat.reduceSub, Nat.reduceLT, Nat.reduceLeDiff, Nat.reducePow, Int.reduceLT, Int.reduceLE, Int.reduceEq, Int.reduceNe, quietB, Nat.reduceMod, Int.reduceToNat, ne_eq, eq_self, exists_const, evBytes, byRow, byL, byStr_size, ifsz, ByteArray.size_append, Option.none_or, Option.some_or, evLook, keyD])

end Go.VC.T
/- Data (Poly): how they are measured, copied and compared. -/
namespace Go.VC.T
open Go Go.VC Go.Proofs Go.VC.F
set_option linter.unusedSimpArgs false
set_option linter.unusedVariables false
set_option linter.defProp false
set_option maxRecDepth 100000
set_option maxHeartbeats 2000000
def fc12SPoly := (And.intro (And.intro (And.intro (And.intro sz3 ag3) (And.intro zv3 (And.intro un3 sz4))) (And.intro (And.intro ag4 zv4) (And.intro un4 (And.intro sz30 ag30)))) (And.intro (And.intro (And.intro zv30 sb30) (And.intro un30 (And.intro el30 ap30))) (And.intro (And.intro sz32 (And.intro ag32 zv32)) (And.intro fl32_0 (And.intro pl32 okf24)))))
theorem szPoly_ok (t : List Mono) (h : okPoly (2^48) t) (left : Int) (hl : 0 ≤ left ∧ left ≤ 2^20) : FnS Tryd.prog 12 [] [agT (ePoly t), iT left] [] (iT (szR (zPoly t) left)) := by
  refine FnS.go [0, 1, 2, 4, 10] [] Tryd.func12 rfl (fun kt kz => ?_)
  have fcx := fc12SPoly
  simp only [Tryd.f12]
  have ho := okPoly_iff.1 h
  refine Run ((And.intro @ePoly_eta @szR_add)) ?_; repeat' (first | (with_reducible exact True.intro) | (with_reducible refine Lf.mk ?_ ?_) | (with_reducible intro hb))
  refine Cal ((And.intro @ePoly_eta @szR_add)) (szMonoS_ok _ ho _ hl) ?_
  have hz := szR_le (n := zL zMono t) hl.1
  refine Run ((And.intro @ePoly_eta @szR_add)) ?_; repeat' (first | (with_reducible exact True.intro) | (with_reducible refine Lf.mk ?_ ?_) | (with_reducible intro hb))
  · congr 4; have s1 := szR_spec (zL zMono t) left; have s2 := szR_spec (zPoly t) left; rw [zPoly_eta] at s2 ⊢; omega
  · skip
    rw [zPoly_eta]

def fc14SPoly := (And.intro (And.intro (And.intro (And.intro sz30 (And.intro ag30 zv30)) (And.intro sb30 (And.intro un30 el30))) (And.intro (And.intro ap30 (And.intro sz32 ag32)) (And.intro zv32 (And.intro fl32_0 pl32)))) (And.intro (And.intro (And.intro sz35 (And.intro ag35 zv35)) (And.intro sb35 (And.intro un35 el35))) (And.intro (And.intro ap35 (And.intro sz37 ag37)) (And.intro (And.intro zv37 fl37_0) (And.intro pl37 okf27)))))
theorem toPoly_w (t : List Mono) (h : okPoly (2^20) t) : FnS Tryd.prog 14 [] [agT (ePoly t)] [(1000, .row t.length (t.flatMap eMono))] (.ag [.os 1000 t.length]) := by
  refine FnS.go [0, 1, 2, 3] [] Tryd.func14 rfl (fun kt kz => ?_)
  have fcx := fc14SPoly
  simp only [Tryd.f14]
  have ho := okPoly_iff.1 h
  refine Run (@ePoly_eta) ?_; repeat' (first | (with_reducible exact True.intro) | (with_reducible refine Lf.mk ?_ ?_) | (with_reducible intro hb))
  refine CalI (@ePoly_eta) (toMonoS_o _ ho 1000) ?_
  refine Run (@ePoly_eta) ?_; repeat' (first | (with_reducible exact True.intro) | (with_reducible refine Lf.mk ?_ ?_) | (with_reducible intro hb))

theorem toPoly_o (t : List Mono) (h : okPoly (2^20) t) : ∀ q0 : Nat, [q0].Nodup → FnS Tryd.prog 14 [] [agT (ePoly t)] [(q0, .row t.length (t.flatMap eMono))] (.ag [.os q0 t.length]) := by
  intro q0 hq
  obtain ⟨p, hp⟩ := pml [1000] [q0] (by decide) hq rfl
  simp only [List.map_cons, List.map_nil, List.cons.injEq, and_true] at hp
  refine ((toPoly_w t h).rows.pm p).as ?_ ?_ <;> simp [rowS, rowO, renS, Ob.ren, TV.ren, renL, Cell.ren, hp]

def fc16SPoly := (And.intro (And.intro (And.intro (And.intro sz4 ag4) (And.intro zv4 un4)) (And.intro (And.intro sz35 ag35) (And.intro zv35 sb35))) (And.intro (And.intro (And.intro un35 el35) (And.intro ap35 sz37)) (And.intro (And.intro ag37 zv37) (And.intro fl37_0 (And.intro pl37 okf32)))))
theorem eqPoly_ok (t : List Mono) (h : okPoly (2^20) t) : FnS Tryd.prog 16 [] [agT (ePoly t), agT (ePoly t)] [] (bT true) := by
  refine FnS.go [0, 1, 2, 3, 4, 10] [] Tryd.func16 rfl (fun kt kz => ?_)
  have fcx := fc16SPoly
  simp only [Tryd.f16]
  have ho := okPoly_iff.1 h
  refine Run (@ePoly_eta) ?_; repeat' (first | (with_reducible exact True.intro) | (with_reducible refine Lf.mk ?_ ?_) | (with_reducible intro hb))
  refine Cal (@ePoly_eta) (eqMonoS_ok _ ho) ?_
  refine Run (@ePoly_eta) ?_; repeat' (first | (with_reducible exact True.intro) | (with_reducible refine Lf.mk ?_ ?_) | (with_reducible intro hb))

theorem toPoly_ok (t : List Mono) (h : okPoly (2^20) t) : FnP Tryd.prog 14 [agT (ePoly t)] (agT (ePoly t)) := (toPoly_o t h 1000 (by decide)).tree (by simp -dsimp (maxSteps := 2000000) (disch := omega) only [vs, ↓Option.bind_some, ev1, ofV, scalarB, Kn, Kb, calleeOf, evLoad, ptr, evField, evFieldAddr, shift, ↓pt_at, ↓pt_at1, evExtract, evBin, evLen, evConv, cellsT, noS, Cell.has, Cell.hasN, Cell.anyN, toIV, toIV0, toIVs, ownC, srcM, Ob.own, Ob.esz, allSc, nilK, lenC, ownCell, isPtr, ptrNil, frzO, Cell.frz, Cell.keys, ↓reduceIte, reduceCtorEq, Nat.reduceEqDiff, Nat.reduceBEq, Nat.reduceBNe, Nat.reduceAdd, Nat.reduceMul, Nat.reduceSub, Nat.reduceLT, Nat.reduceLeDiff, Nat.reducePow, Int.reduceLT, Int.reduceLE, Int.reduceEq, Int.reduceNe, quietB, Nat.reduceMod, Int.reduceToNat, ne_eq, eq_self, exists_const, evBytes, byRow, byL, byStr_size, ifsz, ByteArray.size_append, Option.none_or, Option.some_or, evLook, keyD, ePoly_eta])

end Go.VC.T
/- Marks as texts; rows of texts and numbers that are marked. -/
namespace Go.VC
/-- The digits of a number, ahead of a text. -/
def dgt (k : Nat) (out : ByteArray) : ByteArray := if _h : k = 0 then out else dgt (k / 10) (byStr [((48 + k % 10 : Nat) : Int)] ++ out)
termination_by k
decreasing_by omega
theorem dgt_zero {out : ByteArray} : dgt 0 out = out := by rw [dgt]; simp
theorem dgt_pos {k : Nat} {out : ByteArray} (h : 0 < k) : dgt k out = dgt (k / 10) (byStr [((48 + k % 10 : Nat) : Int)] ++ out) := by
  conv => lhs; rw [dgt]
  rw [dif_neg (by omega)]
def mT (k : Int) : ByteArray := if k ≤ 0 then ⟨#[109, 48]⟩ else ⟨#[109]⟩ ++ dgt k.toNat ⟨#[]⟩
end Go.VC
namespace Go.VC.T
open Go Go.VC Go.Proofs Go.VC.F
set_option linter.unusedSimpArgs false
set_option linter.unusedVariables false
set_option linter.defProp false
set_option maxRecDepth 100000
set_option maxHeartbeats 2000000
theorem dg_wrap (m : Nat) : IntKind.u8.wrap (IntKind.i64.wrap (48 + (m : Int).tmod 10)) = ((48 + m % 10 : Nat) : Int) := by
  have h : (m : Int).tmod 10 = ((m % 10 : Nat) : Int) := by rw [Int.tmod_eq_emod_of_nonneg (by omega)]; omega
  rw [h, wrap64 (by omega)]
  simp [IntKind.wrap, IntKind.signed, IntKind.bits]
  omega
theorem dg_div (m : Nat) : (m : Int).tdiv 10 = ((m / 10 : Nat) : Int) := by
  rw [Int.tdiv_eq_ediv_of_nonneg (by omega)]; omega

end Go.VC.T
/- Rows of texts and numbers: how they are marked. -/
namespace Go.VC.T
open Go Go.VC Go.Proofs Go.VC.F
set_option linter.unusedSimpArgs false
set_option linter.unusedVariables false
set_option linter.defProp false
set_option maxRecDepth 100000
set_option maxHeartbeats 2000000





end Go.VC.T
/- Data (Mono): how they are marked. -/
namespace Go.VC.T
open Go Go.VC Go.Proofs Go.VC.F
set_option linter.unusedSimpArgs false
set_option linter.unusedVariables false
set_option linter.defProp false
set_option maxRecDepth 100000
set_option maxHeartbeats 2000000



end Go.VC.T
/- Data (Poly): how they are marked. -/
namespace Go.VC.T
open Go Go.VC Go.Proofs Go.VC.F
set_option linter.unusedSimpArgs false
set_option linter.unusedVariables false
set_option linter.defProp false
set_option maxRecDepth 100000
set_option maxHeartbeats 2000000

def hPoly (k : Int) (t : List Mono) : List IV := [.sl t.length (mkL mT (k) (t.flatMap eMono))]


end Go.VC.T
/- Polynomials of a token, of a number. -/
namespace Go.VC
def tokP (s : ByteArray) : List Mono := if s = ⟨#[]⟩ then [] else [⟨1, [s]⟩]
def numP (n : Int) : List Mono := if n < 1 ∨ 1000000 < n then [] else [⟨n, []⟩]
end Go.VC
namespace Go.VC.T
open Go Go.VC Go.Proofs Go.VC.F
set_option linter.unusedSimpArgs false
set_option linter.unusedVariables false
set_option linter.defProp false
set_option maxRecDepth 100000
set_option maxHeartbeats 2000000
def fc60A30 := (And.intro (And.intro (And.intro sz3 ag3) (And.intro zv3 un3)) (And.intro (And.intro sz4 ag4) (And.intro zv4 un4)))
theorem l1In_ok (x lo hi : Int) : FnS Tryd.prog 60 [] [iT x, iT lo, iT hi] [] (bT (decide (lo ≤ x ∧ x ≤ hi))) := by
  refine FnS.go [0, 1, 2, 6] [] Tryd.func60 rfl (fun kt kz => ?_)
  have fcx := fc60A30
  simp only [Tryd.f60]
  by_cases h1 : lo ≤ x
  · have e : decide (lo ≤ x ∧ x ≤ hi) = decide (x ≤ hi) := decide_eq_decide.2 (by omega)
    refine Run ((And.intro @h1 @e)) ?_; repeat' (first | (with_reducible exact True.intro) | (with_reducible refine Lf.mk ?_ ?_) | (with_reducible intro hb))
  · have e : decide (False ∧ x ≤ hi) = false := decide_eq_false (fun h => h.1)
    refine Run ((And.intro @h1 @e)) ?_; repeat' (first | (with_reducible exact True.intro) | (with_reducible refine Lf.mk ?_ ?_) | (with_reducible intro hb))

theorem tokP_ok (s : ByteArray) (h : s.size ≤ 2^20) : okPoly (2^20) (tokP s) ∧ cnL ((tokP s).flatMap eMono) ≤ 2 := by
  rw [okPoly_iff]
  unfold tokP
  split
  · exact ⟨⟨by simp, by simp⟩, by simp [cnL]⟩
  · refine ⟨⟨by simp, fun m hm => ?_⟩, ?_⟩
    · obtain rfl : m = ⟨1, [s]⟩ := by simpa using hm
      rw [okMono_iff]
      exact ⟨(by show ok64 1; exact ⟨by omega, by omega⟩), by simp, by simpa [okS] using h⟩
    · simp [eMono, slI, eS, cnL_i, cnL_l, cnL_s, cnL_n]
theorem numP_ok (n : Int) : okPoly (2^20) (numP n) ∧ cnL ((numP n).flatMap eMono) ≤ 2 := by
  rw [okPoly_iff]
  unfold numP
  split
  · exact ⟨⟨by simp, by simp⟩, by simp [cnL]⟩
  · rename_i h
    refine ⟨⟨by simp, fun m hm => ?_⟩, ?_⟩
    · obtain rfl : m = ⟨n, []⟩ := by simpa using hm
      rw [okMono_iff]
      exact ⟨(by show ok64 n; exact ⟨by omega, by omega⟩), by simp, by simp⟩
    · simp [eMono, slI, cnL_i, cnL_l, cnL_n]

end Go.VC.T
/- Names, labels: on both sides. -/
namespace Go.VC
open Go
abbrev bt (s : ByteArray) (i : Nat) : Int := ((s.data.toList.getD i 0).toNat : Int)
def okC (s : ByteArray) (i : Nat) : Prop := (97 ≤ bt s i ∧ bt s i ≤ 122) ∨ (i ≠ 0 ∧ 48 ≤ bt s i ∧ bt s i ≤ 57)
def kwIf : ByteArray := ⟨#[105, 102]⟩
def kwFor : ByteArray := ⟨#[102, 111, 114]⟩
def NameOk (s : ByteArray) : Prop := (∀ j, j < s.size → okC s j) ∧ (1 ≤ s.size ∧ s.size ≤ 4) ∧ ¬ s = ⟨#[105, 102]⟩ ∧ ¬ s = ⟨#[102, 111, 114]⟩
noncomputable instance (s : ByteArray) : Decidable (NameOk s) := Classical.propDecidable _
theorem okC_let {s : ByteArray} {i : Nat} (h1 : 97 ≤ bt s i) (h2 : bt s i ≤ 122) : okC s i := .inl ⟨h1, h2⟩
theorem okC_dig {s : ByteArray} {i : Nat} (h0 : i ≠ 0) (h1 : 48 ≤ bt s i) (h2 : bt s i ≤ 57) : okC s i := .inr ⟨h0, h1, h2⟩
def AscS (l : List ByteArray) : Prop := ∀ k, (h : k + 1 < l.length) → sLt (l[k]'(by omega)) l[k + 1] = true
noncomputable instance (l : List ByteArray) : Decidable (AscS l) := Classical.propDecidable _
def LabsOk (l : List ByteArray) : Prop := (∀ s ∈ l, NameOk s) ∧ (1 ≤ l.length ∧ l.length ≤ 4) ∧ AscS l
noncomputable instance (l : List ByteArray) : Decidable (LabsOk l) := Classical.propDecidable _
end Go.VC
namespace Go.VC.T
open Go Go.VC Go.Proofs Go.VC.F
set_option linter.unusedSimpArgs false
set_option linter.unusedVariables false
set_option linter.defProp false
set_option maxRecDepth 100000
set_option maxHeartbeats 2000000
def fc93A54 := (And.intro (And.intro (And.intro (And.intro sz3 ag3) (And.intro zv3 un3)) (And.intro (And.intro sz4 ag4) (And.intro zv4 un4))) (And.intro (And.intro (And.intro sz5 ag5) (And.intro zv5 un5)) (And.intro (And.intro sz9 ag9) (And.intro zv9 (And.intro un9 okf60)))))
theorem specName_ok (s : ByteArray) (hs : s.size ≤ 2^48) : FnS Tryd.prog 93 [] [sT s] [] (bT (decide (NameOk s))) := by
  refine FnS.go [0, 2, 3, 4, 8, 38] [] Tryd.func93 rfl (fun kt kz => ?_)
  have fcx := fc93A54
  simp only [Tryd.f93]
  refine Run ((Tryd.underlying9)) ?_; repeat' (first | (with_reducible exact True.intro) | (with_reducible refine Lf.mk ?_ ?_) | (with_reducible intro hb))
  refine Trn (α := Nat) [2, 3, 4, 5, 6, 7, 8, 9, 10, 11, 12, 13, 14, 15, 16, 17, 18, 19, 20, 21, 22, 23, 24, 25, 26, 27, 28, 29, 30, 31, 32, 33, 34, 35, 36, 37, 38] (fun i => [(3, iT i)]) (fun i => []) (fun i => i ≤ s.size ∧ ∀ j, j < i → okC s j) (fun i => s.size - i) (0) (⟨Nat.zero_le _, fun j h => absurd h (Nat.not_lt_zero _)⟩) ((Tryd.underlying9)) ?_; intro lx hI; obtain i := lx; (try simp only [List.nil_append, List.cons_append] at hI ⊢)
  by_cases hlt : lx < s.size
  · have hnx : okC s lx → ∀ j, j < lx + 1 → okC s j := fun h j hj => by
      rcases Nat.lt_or_ge j lx with h1 | h1
      · exact hI.2 j h1
      · obtain rfl : j = lx := by omega
        exact h
    have hno : ¬ okC s lx → decide (NameOk s) = false := fun h => decide_eq_false fun hn => h (hn.1 lx hlt)
    by_cases a1 : 97 ≤ bt s lx
    · have a1' := eq_true a1
      by_cases a2 : bt s lx ≤ 122
      · have a2' := eq_true a2
        refine Run ((And.intro (And.intro (Tryd.underlying9) @hlt) (And.intro @a1' @a2'))) ?_; repeat' (first | (with_reducible exact True.intro) | (with_reducible refine Lf.mk ?_ ?_) | (with_reducible intro hb))
        exact Nxt (cast_succ) (lx + 1) (⟨by omega, hnx (okC_let a1 a2)⟩) (by first | omega | (simp; omega))
      · have a2' := eq_false a2
        have e := hno (fun h => by rcases h with h | h <;> omega)
        have d1' : (bt s lx < 48) = False := eq_false (by omega)
        have d2' : (57 < bt s lx) = True := eq_true (by omega)
        by_cases h0 : lx = 0
        · have g0 : ((lx : Int) = 0) = True := eq_true (by omega)
          refine Run ((And.intro (And.intro (Tryd.underlying9) (And.intro @hlt @a1')) (And.intro @a2' (And.intro @g0 @e)))) ?_; repeat' (first | (with_reducible exact True.intro) | (with_reducible refine Lf.mk ?_ ?_) | (with_reducible intro hb))
        · have g0 : ((lx : Int) = 0) = False := eq_false (by omega)
          refine Run ((And.intro (And.intro (And.intro (Tryd.underlying9) @hlt) (And.intro @a1' @a2')) (And.intro (And.intro @g0 @d1') (And.intro @d2' @e)))) ?_; repeat' (first | (with_reducible exact True.intro) | (with_reducible refine Lf.mk ?_ ?_) | (with_reducible intro hb))
    · have a1' := eq_false a1
      by_cases h0 : lx = 0
      · have e := hno (fun h => by rcases h with h | h <;> omega)
        have g0 : ((lx : Int) = 0) = True := eq_true (by omega)
        refine Run ((And.intro (And.intro (Tryd.underlying9) @hlt) (And.intro @a1' (And.intro @g0 @e)))) ?_; repeat' (first | (with_reducible exact True.intro) | (with_reducible refine Lf.mk ?_ ?_) | (with_reducible intro hb))
      · have g0 : ((lx : Int) = 0) = False := eq_false (by omega)
        by_cases d1 : bt s lx < 48
        · have e := hno (fun h => by rcases h with h | h <;> omega)
          have d1' := eq_true d1
          refine Run ((And.intro (And.intro (Tryd.underlying9) (And.intro @hlt @a1')) (And.intro @g0 (And.intro @d1' @e)))) ?_; repeat' (first | (with_reducible exact True.intro) | (with_reducible refine Lf.mk ?_ ?_) | (with_reducible intro hb))
        · have d1' := eq_false d1
          by_cases d2 : 57 < bt s lx
          · have e := hno (fun h => by rcases h with h | h <;> omega)
            have d2' := eq_true d2
            refine Run ((And.intro (And.intro (Tryd.underlying9) (And.intro @hlt @a1')) (And.intro (And.intro @g0 @d1') (And.intro @d2' @e)))) ?_; repeat' (first | (with_reducible exact True.intro) | (with_reducible refine Lf.mk ?_ ?_) | (with_reducible intro hb))
          · have d2' := eq_false d2
            refine Run ((And.intro (And.intro (Tryd.underlying9) (And.intro @hlt @a1')) (And.intro @g0 (And.intro @d1' @d2')))) ?_; repeat' (first | (with_reducible exact True.intro) | (with_reducible refine Lf.mk ?_ ?_) | (with_reducible intro hb))
            exact Nxt (cast_succ) (lx + 1) (⟨by omega, hnx (okC_dig h0 (by omega) (by omega))⟩) (by first | omega | (simp; omega))
  · have hall : ∀ j, j < s.size → okC s j := fun j hj => hI.2 j (by omega)
    have hc : decide (NameOk s) = decide ((1 ≤ (s.size : Int) ∧ (s.size : Int) ≤ 4) ∧ ¬ s = ⟨#[105, 102]⟩ ∧ ¬ s = ⟨#[102, 111, 114]⟩) := decide_eq_decide.2 ⟨fun h => ⟨by have := h.2.1; omega, h.2.2⟩, fun h => ⟨hall, by have := h.1; omega, h.2⟩⟩
    refine Run ((And.intro (Tryd.underlying9) @hlt)) ?_; repeat' (first | (with_reducible exact True.intro) | (with_reducible refine Lf.mk ?_ ?_) | (with_reducible intro hb))
    refine Cal ((Tryd.underlying9)) (l1In_ok (s.size : Int) 1 4) ?_
    by_cases h1 : 1 ≤ (s.size : Int) ∧ (s.size : Int) ≤ 4
    · by_cases h2 : s = ⟨#[105, 102]⟩
      · have e : decide (NameOk s) = false := decide_eq_false fun h => h.2.2.1 h2
        rw [e]
        subst h2
        have e1 : ((ByteArray.mk #[105, 102]).size : Int) = 2 := rfl
        refine Run ((And.intro (Tryd.underlying9) @e1)) ?_; repeat' (first | (with_reducible exact True.intro) | (with_reducible refine Lf.mk ?_ ?_) | (with_reducible intro hb))
      · by_cases h3 : s = ⟨#[102, 111, 114]⟩
        · have e : decide (NameOk s) = false := decide_eq_false fun h => h.2.2.2 h3
          have h2' := eq_false h2
          have h3' := eq_true h3
          refine Run ((And.intro (And.intro (Tryd.underlying9) @h1) (And.intro @h2' (And.intro @h3' @e)))) ?_; repeat' (first | (with_reducible exact True.intro) | (with_reducible refine Lf.mk ?_ ?_) | (with_reducible intro hb))
        · have e : decide (NameOk s) = true := decide_eq_true ⟨hall, by omega, h2, h3⟩
          refine Run ((And.intro (And.intro (Tryd.underlying9) @h1) (And.intro @h2 (And.intro @h3 @e)))) ?_; repeat' (first | (with_reducible exact True.intro) | (with_reducible refine Lf.mk ?_ ?_) | (with_reducible intro hb))
    · have e : decide (NameOk s) = false := decide_eq_false fun h => h1 (by have := h.2.1; omega)
      refine Run ((And.intro (Tryd.underlying9) (And.intro @h1 @e))) ?_; repeat' (first | (with_reducible exact True.intro) | (with_reducible refine Lf.mk ?_ ?_) | (with_reducible intro hb))

end Go.VC.T
/- Names, labels: the program; ascending labels on both sides. -/
namespace Go.VC.T
open Go Go.VC Go.Proofs Go.VC.F
set_option linter.unusedSimpArgs false
set_option linter.unusedVariables false
set_option linter.defProp false
set_option maxRecDepth 100000
set_option maxHeartbeats 2000000
def fc105A55 := (And.intro (And.intro (And.intro sz4 ag4) (And.intro zv4 un4)) (And.intro (And.intro sz5 ag5) (And.intro zv5 un5)))
theorem isSmall_ok (c : Int) : FnS Tryd.prog 105 [] [.c (.im (.sc (.int .u8 c)))] [] (bT (decide (97 ≤ c ∧ c ≤ 122))) := by
  refine FnS.go [0, 2] [] Tryd.func105 rfl (fun kt kz => ?_)
  have fcx := fc105A55
  simp only [Tryd.f105]
  by_cases h1 : 97 ≤ c
  · have e : decide (97 ≤ c ∧ c ≤ 122) = decide (c ≤ 122) := decide_eq_decide.2 (by omega)
    refine Run ((And.intro @h1 @e)) ?_; repeat' (first | (with_reducible exact True.intro) | (with_reducible refine Lf.mk ?_ ?_) | (with_reducible intro hb))
  · have e : decide (False ∧ c ≤ 122) = false := decide_eq_false (fun h => h.1)
    refine Run ((And.intro @h1 @e)) ?_; repeat' (first | (with_reducible exact True.intro) | (with_reducible refine Lf.mk ?_ ?_) | (with_reducible intro hb))
def fc106A55 := (And.intro (And.intro (And.intro sz4 ag4) (And.intro zv4 un4)) (And.intro (And.intro sz5 ag5) (And.intro zv5 un5)))
theorem isDigit_ok (c : Int) : FnS Tryd.prog 106 [] [.c (.im (.sc (.int .u8 c)))] [] (bT (decide (48 ≤ c ∧ c ≤ 57))) := by
  refine FnS.go [0, 2] [] Tryd.func106 rfl (fun kt kz => ?_)
  have fcx := fc106A55
  simp only [Tryd.f106]
  by_cases h1 : 48 ≤ c
  · have e : decide (48 ≤ c ∧ c ≤ 57) = decide (c ≤ 57) := decide_eq_decide.2 (by omega)
    refine Run ((And.intro @h1 @e)) ?_; repeat' (first | (with_reducible exact True.intro) | (with_reducible refine Lf.mk ?_ ?_) | (with_reducible intro hb))
  · have e : decide (False ∧ c ≤ 57) = false := decide_eq_false (fun h => h.1)
    refine Run ((And.intro @h1 @e)) ?_; repeat' (first | (with_reducible exact True.intro) | (with_reducible refine Lf.mk ?_ ?_) | (with_reducible intro hb))
def fc98A55 := (And.intro (And.intro (And.intro (And.intro sz3 ag3) (And.intro zv3 un3)) (And.intro (And.intro sz4 ag4) (And.intro zv4 (And.intro un4 sz5)))) (And.intro (And.intro (And.intro ag5 zv5) (And.intro un5 sz9)) (And.intro (And.intro ag9 zv9) (And.intro un9 (And.intro okf105 okf106)))))
theorem implName_ok (s : ByteArray) (hs : s.size ≤ 2^48) : FnS Tryd.prog 98 [] [sT s] [] (bT (decide (NameOk s))) := by
  refine FnS.go [0, 2, 3, 25, 27, 28, 29, 42] [] Tryd.func98 rfl (fun kt kz => ?_)
  have fcx := fc98A55
  simp only [Tryd.f98]
  have us := Tryd.underlying9
  by_cases z1 : (s.size : Int) < 1
  · have e : decide (NameOk s) = false := decide_eq_false fun h => by have := h.2.1; omega
    have g1 := eq_true z1
    refine Run ((And.intro @us (And.intro @g1 @e))) ?_; repeat' (first | (with_reducible exact True.intro) | (with_reducible refine Lf.mk ?_ ?_) | (with_reducible intro hb))
  · have g1 := eq_false z1
    by_cases z2 : (4 : Int) < (s.size : Int)
    · have e : decide (NameOk s) = false := decide_eq_false fun h => by have := h.2.1; omega
      have g2 := eq_true z2
      refine Run ((And.intro (And.intro @us @g1) (And.intro @g2 @e))) ?_; repeat' (first | (with_reducible exact True.intro) | (with_reducible refine Lf.mk ?_ ?_) | (with_reducible intro hb))
    · have g2 := eq_false z2
      have hp : 0 < s.size := by omega
      refine Run ((And.intro @us (And.intro @g1 @g2))) ?_; repeat' (first | (with_reducible exact True.intro) | (with_reducible refine Lf.mk ?_ ?_) | (with_reducible intro hb))
      refine Cal (@us) (isSmall_ok (bt s 0)) ?_
      by_cases b0 : 97 ≤ bt s 0 ∧ bt s 0 ≤ 122
      · have gb := eq_true b0
        by_cases k1 : s = ⟨#[105, 102]⟩
        · have e : decide (NameOk s) = false := decide_eq_false fun h => h.2.2.1 k1
          have gk := eq_true k1
          refine Run ((And.intro (And.intro @us @gb) (And.intro @gk @e))) ?_; repeat' (first | (with_reducible exact True.intro) | (with_reducible refine Lf.mk ?_ ?_) | (with_reducible intro hb))
        · have gk := eq_false k1
          by_cases k2 : s = ⟨#[102, 111, 114]⟩
          · have e : decide (NameOk s) = false := decide_eq_false fun h => h.2.2.2 k2
            have gk2 := eq_true k2
            refine Run ((And.intro (And.intro @us @gb) (And.intro @gk (And.intro @gk2 @e)))) ?_; repeat' (first | (with_reducible exact True.intro) | (with_reducible refine Lf.mk ?_ ?_) | (with_reducible intro hb))
          · have gk2 := eq_false k2
            refine Run ((And.intro (And.intro @us @gb) (And.intro @gk @gk2))) ?_; repeat' (first | (with_reducible exact True.intro) | (with_reducible refine Lf.mk ?_ ?_) | (with_reducible intro hb))
            refine Trn (α := Nat) [2, 3, 28, 29, 30, 31, 32, 33, 34, 35, 36, 37, 38, 39, 40, 41, 42, 43] (fun i => [(28, iT i)]) (fun i => []) (fun i => i ≤ s.size ∧ ∀ j, j < i → okC s j) (fun i => s.size - i) (0) (⟨Nat.zero_le _, fun j h => absurd h (Nat.not_lt_zero _)⟩) (@us) ?_; intro lx hI; obtain i := lx; (try simp only [List.nil_append, List.cons_append] at hI ⊢)
            by_cases hlt : lx < s.size
            · have hnx : okC s lx → ∀ j, j < lx + 1 → okC s j := fun h j hj => by
                rcases Nat.lt_or_ge j lx with h1 | h1
                · exact hI.2 j h1
                · obtain rfl : j = lx := by omega
                  exact h
              refine Run ((And.intro @us @hlt)) ?_; repeat' (first | (with_reducible exact True.intro) | (with_reducible refine Lf.mk ?_ ?_) | (with_reducible intro hb))
              refine Cal (@us) (isSmall_ok (bt s lx)) ?_
              by_cases c1 : 97 ≤ bt s lx ∧ bt s lx ≤ 122
              · have gc := eq_true c1
                refine Run ((And.intro @us @gc)) ?_; repeat' (first | (with_reducible exact True.intro) | (with_reducible refine Lf.mk ?_ ?_) | (with_reducible intro hb))
                exact Nxt (cast_succ) (lx + 1) (⟨by omega, hnx (.inl c1)⟩) (by first | omega | (simp; omega))
              · have gc := eq_false c1
                have hl0 : lx ≠ 0 := fun h => c1 (by subst h; exact b0)
                refine Run ((And.intro @us (And.intro @gc @hlt))) ?_; repeat' (first | (with_reducible exact True.intro) | (with_reducible refine Lf.mk ?_ ?_) | (with_reducible intro hb))
                refine Cal (@us) (isDigit_ok (bt s lx)) ?_
                by_cases c2 : 48 ≤ bt s lx ∧ bt s lx ≤ 57
                · have gd := eq_true c2
                  refine Run ((And.intro @us @gd)) ?_; repeat' (first | (with_reducible exact True.intro) | (with_reducible refine Lf.mk ?_ ?_) | (with_reducible intro hb))
                  exact Nxt (cast_succ) (lx + 1) (⟨by omega, hnx (.inr ⟨hl0, c2⟩)⟩) (by first | omega | (simp; omega))
                · have gd := eq_false c2
                  have e : decide (NameOk s) = false := decide_eq_false fun h => by
                    rcases h.1 lx hlt with h1 | h1
                    · exact c1 h1
                    · exact c2 h1.2
                  refine Run ((And.intro @us (And.intro @gd @e))) ?_; repeat' (first | (with_reducible exact True.intro) | (with_reducible refine Lf.mk ?_ ?_) | (with_reducible intro hb))
            · have e : decide (NameOk s) = true := decide_eq_true ⟨fun j hj => hI.2 j (by omega), by omega, k1, k2⟩
              refine Run ((And.intro @us (And.intro @hlt @e))) ?_; repeat' (first | (with_reducible exact True.intro) | (with_reducible refine Lf.mk ?_ ?_) | (with_reducible intro hb))
      · have gb := eq_false b0
        have e : decide (NameOk s) = false := decide_eq_false fun h => by
          rcases h.1 0 hp with h1 | h1
          · exact b0 h1
          · exact h1.1 rfl
        refine Run ((And.intro @us (And.intro @gb @e))) ?_; repeat' (first | (with_reducible exact True.intro) | (with_reducible refine Lf.mk ?_ ?_) | (with_reducible intro hb))
def fc94A55 := (And.intro (And.intro (And.intro (And.intro sz3 ag3) (And.intro zv3 un3)) (And.intro (And.intro sz4 ag4) (And.intro zv4 (And.intro un4 sz9)))) (And.intro (And.intro (And.intro ag9 zv9) (And.intro un9 (And.intro sz51 ag51))) (And.intro (And.intro zv51 sb51) (And.intro un51 (And.intro el51 ap51)))))
theorem specAsc_ok (xs : List ByteArray) (hx : xs.length ≤ 2^48) : FnS Tryd.prog 94 [] [slT eS xs] [] (bT (decide (AscS xs))) := by
  refine FnS.go [0, 2, 3, 7, 19] [] Tryd.func94 rfl (fun kt kz => ?_)
  have fcx := fc94A55
  simp only [Tryd.f94]
  refine Run (cast_succ) ?_; repeat' (first | (with_reducible exact True.intro) | (with_reducible refine Lf.mk ?_ ?_) | (with_reducible intro hb))
  refine Trn (α := Nat) [2, 3, 4, 5, 6, 7, 8, 9, 10, 11, 12, 13, 14, 15, 16, 17, 18, 19] (fun i => [(3, iT i)]) (fun i => []) (fun i => 1 ≤ i ∧ ∀ j, (h : j + 1 < xs.length) → j + 1 < i → sLt (xs[j]'(by omega)) xs[j + 1] = true) (fun i => xs.length + 1 - i) (1) (⟨Nat.le_refl _, fun j h hj => by omega⟩) (cast_succ) ?_; intro lx hI; obtain i := lx; (try simp only [List.nil_append, List.cons_append] at hI ⊢)
  by_cases hlt : lx < xs.length
  · have hl1 : lx - 1 < xs.length := by omega
    by_cases hc : sLt xs[lx - 1] xs[lx] = true
    · refine Run ((And.intro @hlt (And.intro @eS.eq_1 @hc))) ?_; repeat' (first | (with_reducible exact True.intro) | (with_reducible refine Lf.mk ?_ ?_) | (with_reducible intro hb))
      exact Nxt (cast_succ) (lx + 1) (⟨by omega, fun j h hj => by
        rcases Nat.lt_or_ge (j + 1) lx with h1 | h1
        · exact hI.2 j h h1
        · obtain rfl : lx = j + 1 := by omega
          exact hc⟩) (by first | omega | (simp; omega))
    · have hcf : sLt xs[lx - 1] xs[lx] = false := by simpa using hc
      have e : decide (AscS xs) = false := decide_eq_false fun h => by
        have := h (lx - 1) (by omega)
        have e2 : lx - 1 + 1 = lx := by omega
        simp only [e2] at this
        rw [hcf] at this; cases this
      refine Run ((And.intro (And.intro @hlt @eS.eq_1) (And.intro @hcf @e))) ?_; repeat' (first | (with_reducible exact True.intro) | (with_reducible refine Lf.mk ?_ ?_) | (with_reducible intro hb))
  · have e : decide (AscS xs) = true := decide_eq_true fun j h => hI.2 j h (by omega)
    refine Run ((And.intro @hlt @e)) ?_; repeat' (first | (with_reducible exact True.intro) | (with_reducible refine Lf.mk ?_ ?_) | (with_reducible intro hb))
def fc95A55 := (And.intro (And.intro (And.intro (And.intro sz3 ag3) (And.intro zv3 un3)) (And.intro (And.intro sz4 ag4) (And.intro zv4 (And.intro un4 sz9)))) (And.intro (And.intro (And.intro ag9 zv9) (And.intro un9 (And.intro sz51 ag51))) (And.intro (And.intro zv51 sb51) (And.intro un51 (And.intro el51 ap51)))))
theorem implAsc_ok (xs : List ByteArray) (hx : xs.length ≤ 2^48) : FnS Tryd.prog 95 [] [slT eS xs] [] (bT (decide (AscS xs))) := by
  refine FnS.go [0, 2, 3, 7, 19] [] Tryd.func95 rfl (fun kt kz => ?_)
  have fcx := fc95A55
  simp only [Tryd.f95]
  refine Run (cast_succ) ?_; repeat' (first | (with_reducible exact True.intro) | (with_reducible refine Lf.mk ?_ ?_) | (with_reducible intro hb))
  refine Trn (α := Nat) [2, 3, 4, 5, 6, 7, 8, 9, 10, 11, 12, 13, 14, 15, 16, 17, 18, 19] (fun i => [(3, iT i)]) (fun i => []) (fun i => 1 ≤ i ∧ ∀ j, (h : j + 1 < xs.length) → j + 1 < i → sLt (xs[j]'(by omega)) xs[j + 1] = true) (fun i => xs.length + 1 - i) (1) (⟨Nat.le_refl _, fun j h hj => by omega⟩) (cast_succ) ?_; intro lx hI; obtain i := lx; (try simp only [List.nil_append, List.cons_append] at hI ⊢)
  by_cases hlt : lx < xs.length
  · have hl1 : lx - 1 < xs.length := by omega
    by_cases hc : sLt xs[lx - 1] xs[lx] = true
    · refine Run ((And.intro @hlt (And.intro @eS.eq_1 @hc))) ?_; repeat' (first | (with_reducible exact True.intro) | (with_reducible refine Lf.mk ?_ ?_) | (with_reducible intro hb))
      exact Nxt (cast_succ) (lx + 1) (⟨by omega, fun j h hj => by
        rcases Nat.lt_or_ge (j + 1) lx with h1 | h1
        · exact hI.2 j h h1
        · obtain rfl : lx = j + 1 := by omega
          exact hc⟩) (by first | omega | (simp; omega))
    · have hcf : sLt xs[lx - 1] xs[lx] = false := by simpa using hc
      have e : decide (AscS xs) = false := decide_eq_false fun h => by
        have := h (lx - 1) (by omega)
        have e2 : lx - 1 + 1 = lx := by omega
        simp only [e2] at this
        rw [hcf] at this; cases this
      refine Run ((And.intro (And.intro @hlt @eS.eq_1) (And.intro @hcf @e))) ?_; repeat' (first | (with_reducible exact True.intro) | (with_reducible refine Lf.mk ?_ ?_) | (with_reducible intro hb))
  · have e : decide (AscS xs) = true := decide_eq_true fun j h => hI.2 j h (by omega)
    refine Run ((And.intro @hlt @e)) ?_; repeat' (first | (with_reducible exact True.intro) | (with_reducible refine Lf.mk ?_ ?_) | (with_reducible intro hb))

end Go.VC.T
/- Labels: on both sides. -/
namespace Go.VC.T
open Go Go.VC Go.Proofs Go.VC.F
set_option linter.unusedSimpArgs false
set_option linter.unusedVariables false
set_option linter.defProp false
set_option maxRecDepth 100000
set_option maxHeartbeats 2000000
def fc97A56 := (And.intro (And.intro (And.intro sz4 ag4) (And.intro zv4 un4)) (And.intro (And.intro sz9 ag9) (And.intro zv9 (And.intro un9 okf98))))
theorem labNo_ok (s : ByteArray) (hs : s.size ≤ 2^48) : FnS Tryd.prog 97 [] [sT s] [] (bT (!decide (NameOk s))) := by
  refine FnS.go [0, 2] [] Tryd.func97 rfl (fun kt kz => ?_)
  have fcx := fc97A56
  simp only [Tryd.f97]
  refine Run (cast_succ) ?_; repeat' (first | (with_reducible exact True.intro) | (with_reducible refine Lf.mk ?_ ?_) | (with_reducible intro hb))
  refine Cal (cast_succ) (implName_ok s hs) ?_
  refine Run (cast_succ) ?_; repeat' (first | (with_reducible exact True.intro) | (with_reducible refine Lf.mk ?_ ?_) | (with_reducible intro hb))
def fc104A56 := (And.intro (And.intro (And.intro (And.intro sz3 ag3) (And.intro zv3 (And.intro un3 sz4))) (And.intro (And.intro ag4 (And.intro zv4 un4)) (And.intro sz9 (And.intro ag9 zv9)))) (And.intro (And.intro (And.intro un9 sz51) (And.intro ag51 (And.intro zv51 sb51))) (And.intro (And.intro un51 (And.intro el51 ap51)) (And.intro sz114 (And.intro ag114 zv114)))))
theorem slIdxNS_ok (g : Nat) (hg : fnOk Tryd.prog g = true) (p : ByteArray → Bool) (xs : List ByteArray) (hx : xs.length ≤ 2^48) (H : ∀ x ∈ xs, FnP Tryd.prog g [sT x] (bT (p x))) : FnS Tryd.prog 104 [] [slT eS xs, .c (.im (.fn g []))] [] (iT (idxI p xs)) := by
  refine FnS.go [0, 1, 4, 5, 7, 8, 9, 16] [] Tryd.func104 rfl (fun kt kz => ?_)
  have fcx := fc104A56
  simp only [Tryd.f104]
  refine Run (cast_succ) ?_; repeat' (first | (with_reducible exact True.intro) | (with_reducible refine Lf.mk ?_ ?_) | (with_reducible intro hb))
  refine Trn (α := Nat) [4, 5, 8, 9, 10, 11, 12, 13, 14, 15, 16, 17, 18] (fun i => [(8, iT i)]) (fun i => []) (fun i => i ≤ xs.length ∧ (xs.take i).any p = false) (fun i => xs.length - i) (0) (⟨Nat.zero_le _, rfl⟩) (cast_succ) ?_; intro lx hI; obtain i := lx; (try simp only [List.nil_append, List.cons_append] at hI ⊢)
  by_cases hlt : lx < xs.length
  · refine Run ((And.intro @hlt (And.intro @eS.eq_1 @hg))) ?_; repeat' (first | (with_reducible exact True.intro) | (with_reducible refine Lf.mk ?_ ?_) | (with_reducible intro hb))
    refine Cal (cast_succ) (H _ (List.getElem_mem hlt)) ?_
    refine Run (cast_succ) ?_; repeat' (first | (with_reducible exact True.intro) | (with_reducible refine Lf.mk ?_ ?_) | (with_reducible intro hb))
    · rw [idx_at hlt hI.2 hb]
    · exact Nxt (cast_succ) (lx + 1) (⟨by omega, any_take hlt hI.2 hb⟩) (by first | omega | (simp; omega))
  · have ha := any_all (by omega) hI.2
    refine Run (@hlt) ?_; repeat' (first | (with_reducible exact True.intro) | (with_reducible refine Lf.mk ?_ ?_) | (with_reducible intro hb))
    rw [idx_no ha]
def fc96A56 := (And.intro (And.intro (And.intro (And.intro sz3 ag3) (And.intro zv3 un3)) (And.intro (And.intro sz4 ag4) (And.intro zv4 (And.intro un4 sz51)))) (And.intro (And.intro (And.intro ag51 zv51) (And.intro sb51 (And.intro un51 el51))) (And.intro (And.intro ap51 sz114) (And.intro ag114 (And.intro zv114 okf104)))))
theorem slHasNS_ok (g : Nat) (hg : fnOk Tryd.prog g = true) (p : ByteArray → Bool) (xs : List ByteArray) (hx : xs.length ≤ 2^48) (H : ∀ x ∈ xs, FnP Tryd.prog g [sT x] (bT (p x))) : FnS Tryd.prog 96 [] [slT eS xs, .c (.im (.fn g []))] [] (bT (xs.any p)) := by
  refine FnS.go [0, 1, 4] [] Tryd.func96 rfl (fun kt kz => ?_)
  have fcx := fc96A56
  simp only [Tryd.f96]
  refine Run (cast_succ) ?_; repeat' (first | (with_reducible exact True.intro) | (with_reducible refine Lf.mk ?_ ?_) | (with_reducible intro hb))
  refine Cal (cast_succ) (slIdxNS_ok g hg p xs hx H) ?_
  refine Run ((idx_ge (p := p) (l := xs))) ?_; repeat' (first | (with_reducible exact True.intro) | (with_reducible refine Lf.mk ?_ ?_) | (with_reducible intro hb))
def fc87A56 := (And.intro (And.intro (And.intro (And.intro sz3 ag3) (And.intro zv3 (And.intro un3 sz4))) (And.intro (And.intro ag4 zv4) (And.intro un4 (And.intro sz51 ag51)))) (And.intro (And.intro (And.intro zv51 sb51) (And.intro un51 (And.intro el51 ap51))) (And.intro (And.intro sz114 (And.intro ag114 zv114)) (And.intro okf95 (And.intro okf96 okf97)))))
theorem implLabs_ok (xs : List ByteArray) (h : okLs (2^20) okS xs) : FnS Tryd.prog 87 [] [slT eS xs] [] (bT (decide (LabsOk xs))) := by
  refine FnS.go [0, 2, 15] [] Tryd.func87 rfl (fun kt kz => ?_)
  have fcx := fc87A56
  simp only [Tryd.f87]
  have hx : xs.length ≤ 2^20 := h.1
  have hss : ∀ s ∈ xs, s.size ≤ 2^48 := fun s hs => by have : s.size ≤ 2^20 := h.2 s hs; omega
  have hg : fnOk Tryd.prog 97 = true := by decide +kernel
  by_cases z1 : (xs.length : Int) < 1
  · have e : decide (LabsOk xs) = false := decide_eq_false fun h => by have := h.2.1; omega
    have g1 := eq_true z1
    refine Run ((And.intro @g1 @e)) ?_; repeat' (first | (with_reducible exact True.intro) | (with_reducible refine Lf.mk ?_ ?_) | (with_reducible intro hb))
  · have g1 := eq_false z1
    by_cases z2 : (4 : Int) < (xs.length : Int)
    · have e : decide (LabsOk xs) = false := decide_eq_false fun h => by have := h.2.1; omega
      have g2 := eq_true z2
      refine Run ((And.intro @g1 (And.intro @g2 @e))) ?_; repeat' (first | (with_reducible exact True.intro) | (with_reducible refine Lf.mk ?_ ?_) | (with_reducible intro hb))
    · have g2 := eq_false z2
      refine Run ((And.intro @g1 @g2)) ?_; repeat' (first | (with_reducible exact True.intro) | (with_reducible refine Lf.mk ?_ ?_) | (with_reducible intro hb))
      refine Cal (cast_succ) (implAsc_ok xs (by omega)) ?_
      by_cases ha : AscS xs
      · have ga := eq_true ha
        have e : (!xs.any fun s => !decide (NameOk s)) = decide (LabsOk xs) := by
          by_cases hn : ∀ s ∈ xs, NameOk s
          · rw [decide_eq_true (show LabsOk xs from ⟨hn, by omega, ha⟩)]
            have : xs.any (fun s => !decide (NameOk s)) = false := by
              rw [List.any_eq_false]
              intro s hs
              simp [hn s hs]
            rw [this]; rfl
          · rw [decide_eq_false (show ¬ LabsOk xs from fun h => hn h.1)]
            have : xs.any (fun s => !decide (NameOk s)) = true := by
              rw [List.any_eq_true]
              simp only [Classical.not_forall] at hn
              obtain ⟨s, hs, h1⟩ := hn
              exact ⟨s, hs, by simp [h1]⟩
            rw [this]; rfl
        refine Run ((And.intro @ga @hg)) ?_; repeat' (first | (with_reducible exact True.intro) | (with_reducible refine Lf.mk ?_ ?_) | (with_reducible intro hb))
        refine Cal (@hg) (slHasNS_ok 97 hg (fun s => !decide (NameOk s)) xs (by omega) (fun x hx => labNo_ok x (hss x hx))) ?_
        refine Run (@e) ?_; repeat' (first | (with_reducible exact True.intro) | (with_reducible refine Lf.mk ?_ ?_) | (with_reducible intro hb))
      · have ga := eq_false ha
        have e : decide (LabsOk xs) = false := decide_eq_false fun h => ha h.2.2
        refine Run ((And.intro @ga @e)) ?_; repeat' (first | (with_reducible exact True.intro) | (with_reducible refine Lf.mk ?_ ?_) | (with_reducible intro hb))
def fc86A56 := (And.intro (And.intro (And.intro (And.intro sz3 ag3) (And.intro zv3 (And.intro un3 sz4))) (And.intro (And.intro ag4 (And.intro zv4 un4)) (And.intro sz9 (And.intro ag9 zv9)))) (And.intro (And.intro (And.intro un9 sz51) (And.intro ag51 (And.intro zv51 sb51))) (And.intro (And.intro un51 (And.intro el51 ap51)) (And.intro okf60 (And.intro okf93 okf94)))))
theorem specLabs_ok (xs : List ByteArray) (h : okLs (2^20) okS xs) : FnS Tryd.prog 86 [] [slT eS xs] [] (bT (decide (LabsOk xs))) := by
  refine FnS.go [0, 2, 3, 7, 15] [] Tryd.func86 rfl (fun kt kz => ?_)
  have fcx := fc86A56
  simp only [Tryd.f86]
  have hx : xs.length ≤ 2^20 := h.1
  have hss : ∀ s ∈ xs, s.size ≤ 2^48 := fun s hs => by have : s.size ≤ 2^20 := h.2 s hs; omega
  refine Run (cast_succ) ?_; repeat' (first | (with_reducible exact True.intro) | (with_reducible refine Lf.mk ?_ ?_) | (with_reducible intro hb))
  refine Trn (α := Nat) [2, 3, 4, 5, 6, 7, 8, 9, 10, 11, 12, 13, 14, 15] (fun i => [(3, iT i)]) (fun i => []) (fun i => i ≤ xs.length ∧ ∀ s ∈ xs.take i, NameOk s) (fun i => xs.length - i) (0) (⟨Nat.zero_le _, fun s hs => by simp at hs⟩) (cast_succ) ?_; intro lx hI; obtain i := lx; (try simp only [List.nil_append, List.cons_append] at hI ⊢)
  by_cases hlt : lx < xs.length
  · refine Run ((And.intro @hlt @eS.eq_1)) ?_; repeat' (first | (with_reducible exact True.intro) | (with_reducible refine Lf.mk ?_ ?_) | (with_reducible intro hb))
    refine Cal (cast_succ) (specName_ok xs[lx] (hss _ (List.getElem_mem hlt))) ?_
    by_cases hn : NameOk xs[lx]
    · have gn := eq_true hn
      refine Run (@gn) ?_; repeat' (first | (with_reducible exact True.intro) | (with_reducible refine Lf.mk ?_ ?_) | (with_reducible intro hb))
      exact Nxt (cast_succ) (lx + 1) (⟨by omega, fun s hs => by
        rw [take_at hlt, List.mem_append] at hs
        rcases hs with h1 | h1
        · exact hI.2 s h1
        · rw [List.mem_singleton] at h1; subst h1; exact hn⟩) (by first | omega | (simp; omega))
    · have gn := eq_false hn
      have e : decide (LabsOk xs) = false := decide_eq_false fun h => hn (h.1 _ (List.getElem_mem hlt))
      refine Run ((And.intro @gn @e)) ?_; repeat' (first | (with_reducible exact True.intro) | (with_reducible refine Lf.mk ?_ ?_) | (with_reducible intro hb))
  · have hall : ∀ s ∈ xs, NameOk s := fun s hs => hI.2 s (by rw [List.take_of_length_le (by omega)]; exact hs)
    refine Run (@hlt) ?_; repeat' (first | (with_reducible exact True.intro) | (with_reducible refine Lf.mk ?_ ?_) | (with_reducible intro hb))
    refine Cal (cast_succ) (l1In_ok (xs.length : Int) 1 4) ?_
    by_cases h1 : 1 ≤ (xs.length : Int) ∧ (xs.length : Int) ≤ 4
    · have g1 := eq_true h1
      have e : decide (AscS xs) = decide (LabsOk xs) := decide_eq_decide.2 ⟨fun h => ⟨hall, by omega, h⟩, fun h => h.2.2⟩
      refine Run (@g1) ?_; repeat' (first | (with_reducible exact True.intro) | (with_reducible refine Lf.mk ?_ ?_) | (with_reducible intro hb))
      refine Cal (cast_succ) (specAsc_ok xs (by omega)) ?_
      refine Run (@e) ?_; repeat' (first | (with_reducible exact True.intro) | (with_reducible refine Lf.mk ?_ ?_) | (with_reducible intro hb))
    · have g1 := eq_false h1
      have e : decide (LabsOk xs) = false := decide_eq_false fun h => h1 (by have := h.2.1; omega)
      refine Run ((And.intro @g1 @e)) ?_; repeat' (first | (with_reducible exact True.intro) | (with_reducible refine Lf.mk ?_ ?_) | (with_reducible intro hb))

end Go.VC.T
/- Values that are right: how large they are, on both sides. -/
namespace Go.VC
open Go
mutual
/-- The parts of a value, counted. -/
def vsz : Val → Nat
  | .mk _ _ _ ws => 1 + vszL ws
def vszL : List Val → Nat
  | [] => 0
  | a :: r => vsz a + vszL r
end
theorem vszL_eq : ∀ l : List Val, vszL l = (l.map vsz).sum
  | [] => rfl
  | a :: r => by rw [vszL, vszL_eq r, List.map_cons, List.sum_cons]
def vszT (l : List Val) (i : Nat) : Nat := ((l.take i).map vsz).sum
theorem vsz_eta (v : Val) : vsz v = 1 + vszT v.args v.args.length := by
  cases v with
  | mk k n ls ws => rw [vsz, vszL_eq]; unfold vszT; rw [show (Val.mk k n ls ws).args = ws from rfl, List.take_length]
theorem vszT_zero {l : List Val} : vszT l 0 = 0 := by simp [vszT]
theorem vszT_succ {l : List Val} {i : Nat} (h : i < l.length) : vszT l (i + 1) = vszT l i + vsz l[i] := by unfold vszT; rw [take_at h, List.map_append, List.sum_append]; simp
theorem vszT_le {l : List Val} {i : Nat} : vszT l i ≤ vszT l l.length := by
  unfold vszT
  rw [List.take_length]
  conv => rhs; rw [← List.take_append_drop i l]
  rw [List.map_append, List.sum_append]
  omega
theorem vszT_all {l : List Val} {i : Nat} (h : l.length ≤ i) : vszT l i = vszT l l.length := by unfold vszT; rw [List.take_length, List.take_of_length_le h]
mutual
theorem vsz_le : ∀ v : Val, vsz v ≤ 1 + zVal v
  | .mk k n ls ws => by
    have h := vszL_le ws
    rw [vsz, zVal_eta]
    show 1 + vszL ws ≤ 1 + (_ + zL zVal ws)
    omega
theorem vszL_le : ∀ l : List Val, vszL l ≤ zL zVal l
  | [] => Nat.zero_le _
  | a :: r => by
    have h1 := vsz_le a
    have h2 := vszL_le r
    unfold zL at h2 ⊢
    rw [vszL, List.map_cons, List.sum_cons, List.length_cons]
    omega
end
theorem zVal_arg {v a : Val} (h : a ∈ v.args) : zVal a ≤ zVal v := by
  have := zL_mem (z := zVal) h
  rw [zVal_eta v]
  omega
end Go.VC
namespace Go.VC.T
open Go Go.VC Go.Proofs Go.VC.F
set_option linter.unusedSimpArgs false
set_option linter.unusedVariables false
set_option linter.defProp false
set_option maxRecDepth 100000
set_option maxHeartbeats 2000000
def fc72A57 := (And.intro (And.intro (And.intro (And.intro sz3 (And.intro ag3 zv3)) (And.intro un3 (And.intro sz4 ag4))) (And.intro (And.intro zv4 (And.intro un4 sz66)) (And.intro ag66 (And.intro zv66 sb66)))) (And.intro (And.intro (And.intro un66 (And.intro el66 ap66)) (And.intro sz68 (And.intro ag68 zv68))) (And.intro (And.intro fl68_0 (And.intro fl68_1 fl68_2)) (And.intro (And.intro fl68_3 pl68) (And.intro okf72 sz51)))))
theorem l5Left_of (v : Val) (h : okVal (2^20) v) (H : ∀ a ∈ v.args, ∀ left : Int, 0 ≤ left ∧ left ≤ 2^20 → FnP Tryd.prog 72 [agT (eVal a), iT left] (iT (szR (vsz a) left))) (left : Int) (hl : 0 ≤ left ∧ left ≤ 2^20) : FnS Tryd.prog 72 [] [agT (eVal v), iT left] [] (iT (szR (vsz v) left)) := by
  refine FnS.go [0, 1, 2, 4, 5, 16] [] Tryd.func72 rfl (fun kt kz => ?_)
  have fcx := fc72A57
  simp only [Tryd.f72]
  have ho := okVal_iff.1 h
  have hln := ho.2.2.2.1
  have e0 : left - 1 = szR (1 + vszT v.args 0) left := by rw [vszT_zero]; unfold szR; split <;> omega
  have ev := vsz_eta v
  refine Run ((And.intro @eVal_eta @e0)) ?_; repeat' (first | (with_reducible exact True.intro) | (with_reducible refine Lf.mk ?_ ?_) | (with_reducible intro hb))
  refine Trn (α := Nat) [1, 5, 8, 9, 10, 11, 12, 13, 14, 15, 16, 17, 18, 19, 20, 21, 22, 23, 24, 25] (fun i => [(5, iT i), (1, iT (szR (1 + vszT v.args i) left))]) (fun i => [(4, .box 68 ((eVal v).map .im))]) (fun i => i ≤ v.args.length) (fun i => v.args.length - i) (0) (Nat.zero_le _) (@eVal_eta) ?_; intro lx hI; obtain i := lx; (try simp only [List.nil_append, List.cons_append] at hI ⊢)
  have hs := szR_le (n := 1 + vszT v.args lx) hl.1
  by_cases hlt : lx < v.args.length
  · by_cases hn : 0 ≤ szR (1 + vszT v.args lx) left
    · have gn := eq_true hn
      have e : szR (vsz v.args[lx]) (szR (1 + vszT v.args lx) left) = szR (1 + vszT v.args (lx + 1)) left := by rw [szR_add, vszT_succ hlt, Nat.add_assoc]
      refine Run ((And.intro @eVal_eta (And.intro @hlt @gn))) ?_; repeat' (first | (with_reducible exact True.intro) | (with_reducible refine Lf.mk ?_ ?_) | (with_reducible intro hb))
      refine Cal (@eVal_eta) (H _ (List.getElem_mem hlt) _ ⟨hn, by omega⟩) ?_
      refine Run (@eVal_eta) ?_; repeat' (first | (with_reducible exact True.intro) | (with_reducible refine Lf.mk ?_ ?_) | (with_reducible intro hb))
      exact Nxt ((And.intro @e @eVal_eta)) (lx + 1) (by omega) (by first | omega | (simp; omega))
    · have gn := eq_false hn
      have hle := vszT_le (l := v.args) (i := lx)
      have e : szR (1 + vszT v.args lx) left = szR (vsz v) left := by
        rw [szR_neg (by omega) (show 1 + vszT v.args lx ≤ vsz v by omega)]
        have := szR_spec (1 + vszT v.args lx) left
        omega
      rw [e] at gn
      refine Run ((And.intro (And.intro @eVal_eta @hlt) (And.intro @gn @e))) ?_; repeat' (first | (with_reducible exact True.intro) | (with_reducible refine Lf.mk ?_ ?_) | (with_reducible intro hb))
  · have e : szR (1 + vszT v.args lx) left = szR (vsz v) left := by rw [ev, vszT_all (by omega)]
    refine Run ((And.intro @eVal_eta (And.intro @hlt @e))) ?_; repeat' (first | (with_reducible exact True.intro) | (with_reducible refine Lf.mk ?_ ?_) | (with_reducible intro hb))

theorem l5Left_ok (v : Val) (h : okVal (2^20) v) (left : Int) (hl : 0 ≤ left ∧ left ≤ 2^20) : FnP Tryd.prog 72 [agT (eVal v), iT left] (iT (szR (vsz v) left)) :=
  l5Left_of v h (fun u hu l h2 => l5Left_ok u ((okVal_iff.1 h).2.2.2.2 u hu) l h2) left hl
termination_by SizeOf.sizeOf v
decreasing_by exact Val.mem hu
def fc75A57 := (And.intro (And.intro (And.intro (And.intro sz3 ag3) (And.intro zv3 (And.intro un3 sz66))) (And.intro (And.intro ag66 zv66) (And.intro sb66 (And.intro un66 el66)))) (And.intro (And.intro (And.intro ap66 sz68) (And.intro ag68 (And.intro zv68 fl68_0))) (And.intro (And.intro fl68_1 (And.intro fl68_2 fl68_3)) (And.intro pl68 (And.intro okf75 sz51)))))
theorem sizeVal_of (v : Val) (h : okVal (2^20) v) (hz : zVal v ≤ 2^20) (H : ∀ a ∈ v.args, FnP Tryd.prog 75 [agT (eVal a)] (iT (vsz a : Int))) : FnS Tryd.prog 75 [] [agT (eVal v)] [] (iT (vsz v : Int)) := by
  refine FnS.go [0, 1, 2, 3, 4, 7, 8, 9] [] Tryd.func75 rfl (fun kt kz => ?_)
  have fcx := fc75A57
  simp only [Tryd.f75]
  have ho := okVal_iff.1 h
  have hln := ho.2.2.2.1
  have ev := vsz_eta v
  have hv := vsz_le v
  refine Run (@eVal_eta) ?_; repeat' (first | (with_reducible exact True.intro) | (with_reducible refine Lf.mk ?_ ?_) | (with_reducible intro hb))
  refine Trn (α := Nat) [3, 4, 8, 9, 10, 11, 12, 13, 14, 15, 16, 17, 18, 19] (fun i => [(8, iT i), (3, iT ((1 + vszT v.args i : Nat) : Int))]) (fun i => [(2, .box 68 ((eVal v).map .im))]) (fun i => i ≤ v.args.length) (fun i => v.args.length - i) (0) (Nat.zero_le _) ((And.intro @eVal_eta (vszT_zero (l := v.args)))) ?_; intro lx hI; obtain i := lx; (try simp only [List.nil_append, List.cons_append] at hI ⊢)
  by_cases hlt : lx < v.args.length
  · have e : ((1 + vszT v.args lx : Nat) : Int) + (vsz v.args[lx] : Int) = ((1 + vszT v.args (lx + 1) : Nat) : Int) := by rw [vszT_succ hlt]; omega
    have hle := vszT_le (l := v.args) (i := lx + 1)
    refine Run ((And.intro @eVal_eta @hlt)) ?_; repeat' (first | (with_reducible exact True.intro) | (with_reducible refine Lf.mk ?_ ?_) | (with_reducible intro hb))
    refine Cal (@eVal_eta) (H _ (List.getElem_mem hlt)) ?_
    refine Run ((And.intro @eVal_eta @e)) ?_; repeat' (first | (with_reducible exact True.intro) | (with_reducible refine Lf.mk ?_ ?_) | (with_reducible intro hb))
    exact Nxt ((And.intro @e @eVal_eta)) (lx + 1) (by omega) (by first | omega | (simp; omega))
  · have e : ((1 + vszT v.args lx : Nat) : Int) = (vsz v : Int) := by rw [ev, vszT_all (by omega)]
    refine Run ((And.intro @eVal_eta (And.intro @hlt @e))) ?_; repeat' (first | (with_reducible exact True.intro) | (with_reducible refine Lf.mk ?_ ?_) | (with_reducible intro hb))

theorem sizeVal_ok (v : Val) (h : okVal (2^20) v) (hz : zVal v ≤ 2^20) : FnP Tryd.prog 75 [agT (eVal v)] (iT (vsz v : Int)) :=
  sizeVal_of v h hz fun u hu => sizeVal_ok u ((okVal_iff.1 h).2.2.2.2 u hu) (Nat.le_trans (zVal_arg hu) hz)
termination_by SizeOf.sizeOf v
decreasing_by exact Val.mem hu
end Go.VC.T
/- Values that are right: their form, on both sides. -/
namespace Go.VC
open Go
def VFh (v : Val) : Prop := (v.kind = 1 ∧ v.labels.length = 0 ∧ v.args.length = 0) ∨ (v.kind = 2 ∧ v.labels.length = 0 ∧ v.args.length = 0 ∧ 0 ≤ v.n ∧ v.n ≤ 1) ∨ (v.kind = 3 ∧ v.n = 0 ∧ v.labels.length = v.args.length ∧ LabsOk v.labels) ∨ (v.kind = 4 ∧ v.n = 0 ∧ v.labels.length = 0)
mutual
def VF : Val → Prop
  | .mk k n ls ws => VFh (.mk k n ls ws) ∧ VFL ws
def VFL : List Val → Prop
  | [] => True
  | a :: r => VF a ∧ VFL r
end
theorem VFL_iff : ∀ {l : List Val}, VFL l ↔ ∀ a ∈ l, VF a
  | [] => by simp [VFL]
  | a :: r => by rw [VFL, VFL_iff (l := r)]; simp
theorem VF_eta (v : Val) : VF v ↔ VFh v ∧ ∀ a ∈ v.args, VF a := by
  cases v with
  | mk k n ls ws => rw [VF, VFL_iff]; rfl
noncomputable instance (v : Val) : Decidable (VF v) := Classical.propDecidable _
noncomputable instance (v : Val) : Decidable (VFh v) := Classical.propDecidable _
def PlainV (v : Val) : Prop := v.labels.length = 0 ∧ v.args.length = 0 ∧ (v.kind = 1 ∨ v.kind = 2 ∧ (v.n = 0 ∨ v.n = 1))
noncomputable instance (v : Val) : Decidable (PlainV v) := Classical.propDecidable _
def ValOk (v : Val) : Prop := vsz v ≤ 2000 ∧ VF v
noncomputable instance (v : Val) : Decidable (ValOk v) := Classical.propDecidable _
end Go.VC
namespace Go.VC.T
open Go Go.VC Go.Proofs Go.VC.F
set_option linter.unusedSimpArgs false
set_option linter.unusedVariables false
set_option linter.defProp false
set_option maxRecDepth 100000
set_option maxHeartbeats 2000000
def fc73A58 := (And.intro (And.intro (And.intro (And.intro (And.intro sz3 ag3) (And.intro zv3 un3)) (And.intro (And.intro sz4 ag4) (And.intro zv4 un4))) (And.intro (And.intro (And.intro sz51 ag51) (And.intro zv51 sb51)) (And.intro (And.intro un51 el51) (And.intro ap51 sz66)))) (And.intro (And.intro (And.intro (And.intro ag66 zv66) (And.intro sb66 un66)) (And.intro (And.intro el66 ap66) (And.intro sz68 ag68))) (And.intro (And.intro (And.intro zv68 fl68_0) (And.intro fl68_1 fl68_2)) (And.intro (And.intro fl68_3 pl68) (And.intro okf60 (And.intro okf73 okf86))))))
theorem l6Form_of (v : Val) (h : okVal (2^20) v) (H : ∀ a ∈ v.args, FnP Tryd.prog 73 [agT (eVal a)] (bT (decide (VF a)))) : FnS Tryd.prog 73 [] [agT (eVal v)] [] (bT (decide (VF v))) := by
  refine FnS.go [0, 1, 2, 3, 8, 17, 19, 20, 32, 49, 68] [] Tryd.func73 rfl (fun kt kz => ?_)
  have fcx := fc73A58
  simp only [Tryd.f73]
  have ho := okVal_iff.1 h
  have hln := ho.2.2.2.1
  have hls := ho.2.2.1
  refine Run ((eVal_eta v)) ?_; repeat' (first | (with_reducible exact True.intro) | (with_reducible refine Lf.mk ?_ ?_) | (with_reducible intro hb))
  refine Trn (α := Nat) [2, 3, 4, 5, 6, 7, 8, 9, 10, 11, 12, 13, 14, 15, 16, 17] (fun i => [(3, iT i)]) (fun i => [(2, .box 68 ((eVal v).map .im))]) (fun i => i ≤ v.args.length ∧ ∀ a ∈ v.args.take i, VF a) (fun i => v.args.length - i) (0) (⟨Nat.zero_le _, fun s hs => by simp at hs⟩) ((eVal_eta v)) ?_; intro lx hI; obtain i := lx; (try simp only [List.nil_append, List.cons_append] at hI ⊢)
  by_cases hlt : lx < v.args.length
  · refine Run ((And.intro (eVal_eta v) (And.intro (eVal_eta v.args[lx]) @hlt))) ?_; repeat' (first | (with_reducible exact True.intro) | (with_reducible refine Lf.mk ?_ ?_) | (with_reducible intro hb))
    refine Cal ((eVal_eta v.args[lx])) (H _ (List.getElem_mem hlt)) ?_
    by_cases hf : VF v.args[lx]
    · have gf := eq_true hf
      refine Run (@gf) ?_; repeat' (first | (with_reducible exact True.intro) | (with_reducible refine Lf.mk ?_ ?_) | (with_reducible intro hb))
      exact Nxt ((eVal_eta v)) (lx + 1) (⟨by omega, fun s hs => by
        rw [take_at hlt, List.mem_append] at hs
        rcases hs with h1 | h1
        · exact hI.2 s h1
        · rw [List.mem_singleton] at h1; subst h1; exact hf⟩) (by first | omega | (simp; omega))
    · have gf := eq_false hf
      have e : decide (VF v) = false := decide_eq_false fun h => hf ((VF_eta v).1 h |>.2 _ (List.getElem_mem hlt))
      refine Run ((And.intro @gf @e)) ?_; repeat' (first | (with_reducible exact True.intro) | (with_reducible refine Lf.mk ?_ ?_) | (with_reducible intro hb))
  · have hall : ∀ a ∈ v.args, VF a := fun s hs => hI.2 s (by rw [List.take_of_length_le (by omega)]; exact hs)
    have hv : decide (VF v) = decide (VFh v) := decide_eq_decide.2 ⟨fun h => ((VF_eta v).1 h).1, fun h => (VF_eta v).2 ⟨h, hall⟩⟩
    have hno : ¬ VFh v → decide (VF v) = false := fun h => by rw [hv]; exact decide_eq_false h
    have hye : VFh v → decide (VF v) = true := fun h => by rw [hv]; exact decide_eq_true h
    by_cases k1 : v.kind = 1
    · have g1 := eq_true k1
      by_cases l0 : (v.labels.length : Int) = 0
      · have gl := eq_true l0
        by_cases a0 : (v.args.length : Int) = 0
        · have ga := eq_true a0
          have e := hye (.inl ⟨k1, by omega, by omega⟩)
          refine Run ((And.intro (And.intro (eVal_eta v) (And.intro @hlt @g1)) (And.intro @gl (And.intro @ga @e)))) ?_; repeat' (first | (with_reducible exact True.intro) | (with_reducible refine Lf.mk ?_ ?_) | (with_reducible intro hb))
        · have ga := eq_false a0
          have e := hno (fun h => by unfold VFh at h; omega)
          refine Run ((And.intro (And.intro (eVal_eta v) (And.intro @hlt @g1)) (And.intro @gl (And.intro @ga @e)))) ?_; repeat' (first | (with_reducible exact True.intro) | (with_reducible refine Lf.mk ?_ ?_) | (with_reducible intro hb))
      · have gl := eq_false l0
        have e := hno (fun h => by unfold VFh at h; omega)
        refine Run ((And.intro (And.intro (eVal_eta v) @hlt) (And.intro @g1 (And.intro @gl @e)))) ?_; repeat' (first | (with_reducible exact True.intro) | (with_reducible refine Lf.mk ?_ ?_) | (with_reducible intro hb))
    · have g1 := eq_false k1
      by_cases k2 : v.kind = 2
      · have g2 := eq_true k2
        by_cases l0 : (v.labels.length : Int) = 0
        · have gl := eq_true l0
          by_cases a0 : (v.args.length : Int) = 0
          · have ga := eq_true a0
            refine Run ((And.intro (And.intro (eVal_eta v) (And.intro @hlt @g1)) (And.intro @g2 (And.intro @gl @ga)))) ?_; repeat' (first | (with_reducible exact True.intro) | (with_reducible refine Lf.mk ?_ ?_) | (with_reducible intro hb))
            refine Cal ((eVal_eta v)) (l1In_ok v.n 0 1) ?_
            have e : decide (0 ≤ v.n ∧ v.n ≤ 1) = decide (VF v) := by rw [hv]; exact decide_eq_decide.2 ⟨fun h => .inr (.inl ⟨k2, by omega, by omega, h.1, h.2⟩), fun h => by unfold VFh at h; omega⟩
            refine Run (@e) ?_; repeat' (first | (with_reducible exact True.intro) | (with_reducible refine Lf.mk ?_ ?_) | (with_reducible intro hb))
          · have ga := eq_false a0
            have e := hno (fun h => by unfold VFh at h; omega)
            refine Run ((And.intro (And.intro (eVal_eta v) (And.intro @hlt @g1)) (And.intro (And.intro @g2 @gl) (And.intro @ga @e)))) ?_; repeat' (first | (with_reducible exact True.intro) | (with_reducible refine Lf.mk ?_ ?_) | (with_reducible intro hb))
        · have gl := eq_false l0
          have e := hno (fun h => by unfold VFh at h; omega)
          refine Run ((And.intro (And.intro (eVal_eta v) (And.intro @hlt @g1)) (And.intro @g2 (And.intro @gl @e)))) ?_; repeat' (first | (with_reducible exact True.intro) | (with_reducible refine Lf.mk ?_ ?_) | (with_reducible intro hb))
      · have g2 := eq_false k2
        by_cases k3 : v.kind = 3
        · have g3 := eq_true k3
          by_cases n0 : v.n = 0
          · have gn := eq_true n0
            by_cases le : (v.labels.length : Int) = (v.args.length : Int)
            · have ge := eq_true le
              refine Run ((And.intro (And.intro (eVal_eta v) (And.intro @hlt @g1)) (And.intro (And.intro @g2 @g3) (And.intro @gn @ge)))) ?_; repeat' (first | (with_reducible exact True.intro) | (with_reducible refine Lf.mk ?_ ?_) | (with_reducible intro hb))
              refine Cal ((eVal_eta v)) (specLabs_ok v.labels hls) ?_
              have e : decide (LabsOk v.labels) = decide (VF v) := by rw [hv]; exact decide_eq_decide.2 ⟨fun h => .inr (.inr (.inl ⟨k3, n0, by omega, h⟩)), fun h => by unfold VFh at h; rcases h with h | h | h | h <;> first | exact h.2.2.2 | (exfalso; omega)⟩
              refine Run (@e) ?_; repeat' (first | (with_reducible exact True.intro) | (with_reducible refine Lf.mk ?_ ?_) | (with_reducible intro hb))
            · have ge := eq_false le
              have e := hno (fun h => by unfold VFh at h; omega)
              refine Run ((And.intro (And.intro (And.intro (eVal_eta v) @hlt) (And.intro @g1 @g2)) (And.intro (And.intro @g3 @gn) (And.intro @ge @e)))) ?_; repeat' (first | (with_reducible exact True.intro) | (with_reducible refine Lf.mk ?_ ?_) | (with_reducible intro hb))
          · have gn := eq_false n0
            have e := hno (fun h => by unfold VFh at h; omega)
            refine Run ((And.intro (And.intro (eVal_eta v) (And.intro @hlt @g1)) (And.intro (And.intro @g2 @g3) (And.intro @gn @e)))) ?_; repeat' (first | (with_reducible exact True.intro) | (with_reducible refine Lf.mk ?_ ?_) | (with_reducible intro hb))
        · have g3 := eq_false k3
          by_cases k4 : v.kind = 4
          · have g4 := eq_true k4
            by_cases n0 : v.n = 0
            · have gn := eq_true n0
              have e : decide ((v.labels.length : Int) = 0) = decide (VF v) := by rw [hv]; exact decide_eq_decide.2 ⟨fun h => .inr (.inr (.inr ⟨k4, n0, by omega⟩)), fun h => by unfold VFh at h; omega⟩
              refine Run ((And.intro (And.intro (And.intro (eVal_eta v) @hlt) (And.intro @g1 @g2)) (And.intro (And.intro @g3 @g4) (And.intro @gn @e)))) ?_; repeat' (first | (with_reducible exact True.intro) | (with_reducible refine Lf.mk ?_ ?_) | (with_reducible intro hb))
            · have gn := eq_false n0
              have e := hno (fun h => by unfold VFh at h; omega)
              refine Run ((And.intro (And.intro (And.intro (eVal_eta v) @hlt) (And.intro @g1 @g2)) (And.intro (And.intro @g3 @g4) (And.intro @gn @e)))) ?_; repeat' (first | (with_reducible exact True.intro) | (with_reducible refine Lf.mk ?_ ?_) | (with_reducible intro hb))
          · have g4 := eq_false k4
            have e := hno (fun h => by unfold VFh at h; omega)
            refine Run ((And.intro (And.intro (eVal_eta v) (And.intro @hlt @g1)) (And.intro (And.intro @g2 @g3) (And.intro @g4 @e)))) ?_; repeat' (first | (with_reducible exact True.intro) | (with_reducible refine Lf.mk ?_ ?_) | (with_reducible intro hb))

theorem l6Form_ok (v : Val) (h : okVal (2^20) v) : FnP Tryd.prog 73 [agT (eVal v)] (bT (decide (VF v))) :=
  l6Form_of v h fun u hu => l6Form_ok u ((okVal_iff.1 h).2.2.2.2 u hu)
termination_by SizeOf.sizeOf v
decreasing_by exact Val.mem hu
def fc52A58 := (And.intro (And.intro (And.intro (And.intro sz3 ag3) (And.intro zv3 (And.intro un3 sz4))) (And.intro (And.intro ag4 zv4) (And.intro un4 (And.intro sz68 ag68)))) (And.intro (And.intro (And.intro zv68 fl68_0) (And.intro fl68_1 (And.intro fl68_2 fl68_3))) (And.intro (And.intro pl68 okf72) (And.intro okf73 (And.intro sz51 sz66)))))
theorem specVal_ok (v : Val) (h : okVal (2^20) v) : FnS Tryd.prog 52 [] [agT (eVal v)] [] (bT (decide (ValOk v))) := by
  refine FnS.go [0, 1, 2] [] Tryd.func52 rfl (fun kt kz => ?_)
  have fcx := fc52A58
  simp only [Tryd.f52]
  have hs := szR_spec (vsz v) 2000
  refine Run ((eVal_eta v)) ?_; repeat' (first | (with_reducible exact True.intro) | (with_reducible refine Lf.mk ?_ ?_) | (with_reducible intro hb))
  refine Cal ((eVal_eta v)) (l5Left_ok v h 2000 ⟨by omega, by omega⟩) ?_
  by_cases hz : 0 ≤ szR (vsz v) 2000
  · have gz := eq_true hz
    have e : decide (VF v) = decide (ValOk v) := decide_eq_decide.2 ⟨fun h => ⟨by omega, h⟩, fun h => h.2⟩
    refine Run ((And.intro (eVal_eta v) @gz)) ?_; repeat' (first | (with_reducible exact True.intro) | (with_reducible refine Lf.mk ?_ ?_) | (with_reducible intro hb))
    refine Cal ((eVal_eta v)) (l6Form_ok v h) ?_
    refine Run (@e) ?_; repeat' (first | (with_reducible exact True.intro) | (with_reducible refine Lf.mk ?_ ?_) | (with_reducible intro hb))
  · have gz := eq_false hz
    have e : decide (ValOk v) = false := decide_eq_false fun h => by have := h.1; omega
    refine Run ((And.intro (eVal_eta v) (And.intro @gz @e))) ?_; repeat' (first | (with_reducible exact True.intro) | (with_reducible refine Lf.mk ?_ ?_) | (with_reducible intro hb))

end Go.VC.T
/- Numbers as texts: no program in sight. -/
set_option linter.unusedSimpArgs false
set_option linter.unusedVariables false
namespace Go.VC
open Go
def fmtB (n : Int) : ByteArray := if n = 0 then ⟨#[48]⟩ else if n < 0 then ⟨#[45]⟩ ++ dgt n.natAbs ⟨#[]⟩ else dgt n.toNat ⟨#[]⟩
theorem byStr_dig (k : Nat) : byStr [((48 + k % 10 : Nat) : Int)] = ⟨#[UInt8.ofNat (48 + k % 10)]⟩ := rfl
theorem app_nil (a : ByteArray) : (a ++ ⟨#[]⟩ : ByteArray) = a := by
  apply ByteArray.ext; simp
theorem dgt_dec : ∀ (k : Nat) (out : ByteArray), 0 < k → dgt k out = ⟨(Lib.decDigits k).toArray⟩ ++ out := by
  intro k
  induction k using Nat.strongRecOn with
  | _ k ih =>
    intro out hk
    rw [dgt_pos hk, byStr_dig]
    by_cases h : k < 10
    · have h0 : k / 10 = 0 := by omega
      have h1 : k % 10 = k := by omega
      rw [h0, dgt_zero, h1, Lib.decDigits, dif_pos h]
    · rw [ih (k / 10) (by omega) _ (by omega)]
      conv => rhs; rw [Lib.decDigits, dif_neg h]
      apply ByteArray.ext
      simp
theorem fmtB_itoa (n : Int) : fmtB n = ⟨(Lib.itoa n).toArray⟩ := by
  unfold fmtB Lib.itoa
  by_cases h0 : n = 0
  · subst h0
    rw [if_pos rfl, if_neg (by omega)]
    show _ = ByteArray.mk (Lib.decDigits 0).toArray
    rw [Lib.decDigits, dif_pos (by omega)]
    rfl
  · rw [if_neg h0]
    by_cases h1 : n < 0
    · rw [if_pos h1, if_pos h1, dgt_dec _ _ (by omega), app_nil]
      apply ByteArray.ext
      simp
    · rw [if_neg h1, if_neg h1, dgt_dec _ _ (by omega), app_nil]
theorem dgt_size : ∀ (d k : Nat) (out : ByteArray), k < 10 ^ d → (dgt k out).size ≤ out.size + d
  | 0, k, out, h => by
    obtain rfl : k = 0 := by simpa using h
    rw [dgt_zero]; omega
  | d + 1, k, out, h => by
    by_cases hk : k = 0
    · subst hk; rw [dgt_zero]; omega
    · rw [dgt_pos (by omega)]
      have := dgt_size d (k / 10) (byStr [((48 + k % 10 : Nat) : Int)] ++ out) (by rw [Nat.pow_succ] at h; omega)
      rw [ByteArray.size_append, byStr_size] at this
      simp only [List.length_cons, List.length_nil] at this
      omega
theorem fmtB_size {n : Int} (h : -9223372036854775808 ≤ n ∧ n ≤ 9223372036854775807) : (fmtB n).size ≤ 21 := by
  unfold fmtB
  split
  · decide
  · split
    · rw [ByteArray.size_append]
      have := dgt_size 20 n.natAbs ⟨#[]⟩ (by rw [show (10:Nat)^20 = 100000000000000000000 from rfl]; omega)
      have e : (ByteArray.mk #[45]).size = 1 := rfl
      have e2 : (ByteArray.mk #[]).size = 0 := rfl
      omega
    · have := dgt_size 20 n.toNat ⟨#[]⟩ (by rw [show (10:Nat)^20 = 100000000000000000000 from rfl]; omega)
      have e2 : (ByteArray.mk #[]).size = 0 := rfl
      omega
end Go.VC
/- Numbers as texts: the reference, and the program under the library's table. -/
namespace Go.VC
open Go
theorem dg_mod (m : Nat) : (m : Int).tmod 10 = ((m % 10 : Nat) : Int) := by rw [Int.tmod_eq_emod_of_nonneg (by omega)]; omega
theorem dg_modn (m : Nat) : (-(m : Int)).tmod 10 = -((m % 10 : Nat) : Int) := by rw [Int.neg_tmod, dg_mod]
theorem dg_divn (m : Nat) : (-(m : Int)).tdiv 10 = -((m / 10 : Nat) : Int) := by rw [Int.neg_tdiv, Go.VC.T.dg_div]
theorem dg_8 (m : Nat) : IntKind.u8.wrap (48 + ((m % 10 : Nat) : Int)) = ((48 + m % 10 : Nat) : Int) := by
  simp [IntKind.wrap, IntKind.signed, IntKind.bits]
  omega
end Go.VC
namespace Go.VC.T
open Go Go.VC Go.Proofs Go.VC.F
set_option linter.unusedSimpArgs false
set_option linter.unusedVariables false
set_option linter.defProp false
set_option maxRecDepth 100000
set_option maxHeartbeats 2000000
def fc22A48 := (And.intro (And.intro (And.intro (And.intro sz3 ag3) (And.intro zv3 (And.intro un3 sz4))) (And.intro (And.intro ag4 (And.intro zv4 un4)) (And.intro sz5 (And.intro ag5 zv5)))) (And.intro (And.intro (And.intro un5 (And.intro sz9 ag9)) (And.intro zv9 (And.intro un9 sz73))) (And.intro (And.intro ag73 (And.intro zv73 sb73)) (And.intro un73 (And.intro el73 ap73)))))
theorem specFmt_ok (n : Int) (hn : ok64 n) : FnS Tryd.prog 22 [] [iT n] [] (sT (fmtB n)) := by
  refine FnS.go [0, 2, 3, 4, 5, 7, 11, 15, 27] [] Tryd.func22 rfl (fun kt kz => ?_)
  have fcx := fc22A48
  simp only [Tryd.f22]
  have hn' : -9223372036854775808 ≤ n ∧ n ≤ 9223372036854775807 := hn
  by_cases h0 : n = 0
  · have e : fmtB n = ⟨#[48]⟩ := if_pos h0
    refine Run (@h0) ?_; repeat' (first | (with_reducible exact True.intro) | (with_reducible refine Lf.mk ?_ ?_) | (with_reducible intro hb))
    rw [← h0, e]
  · by_cases h1 : n < 0
    · have e : fmtB n = ⟨#[45]⟩ ++ dgt n.natAbs ⟨#[]⟩ := by unfold fmtB; rw [if_neg h0, if_pos h1]
      have hs := fmtB_size hn'
      rw [e, ByteArray.size_append] at hs
      rw [e]
      refine Run ((And.intro @h0 @h1)) ?_; repeat' (first | (with_reducible exact True.intro) | (with_reducible refine Lf.mk ?_ ?_) | (with_reducible intro hb))
      refine Trn (α := Nat × ByteArray) [0, 4, 5, 10, 11, 12, 13, 14, 15, 16, 17, 18, 19, 20, 21, 22, 23, 24, 25, 26] (fun ⟨m, o⟩ => [(0, iT (-(m : Int))), (4, sT o)]) (fun ⟨m, o⟩ => []) (fun ⟨m, o⟩ => (m : Int) ≤ 2^63 ∧ dgt m o = dgt n.natAbs ⟨#[]⟩ ∧ o.size + m ≤ 2^63 ∧ (o.size = 0 ∨ o.size + m ≤ 2^62)) (fun ⟨m, o⟩ => m) ((n.natAbs, ⟨#[]⟩)) (⟨by omega, rfl, by show 0 + _ ≤ _; omega, .inl rfl⟩) ((show (-((n.natAbs : Nat) : Int)) = n by omega)) ?_; intro lx hI; obtain ⟨m, o⟩ := lx; (try simp only [List.nil_append, List.cons_append] at hI ⊢)
      by_cases hm : m = 0
      · subst hm
        have hd := hI.2.1
        rw [dgt_zero] at hd
        refine Run ((And.intro (show (-(((0 : Nat) : Int))) = 0 from rfl) @hd)) ?_; repeat' (first | (with_reducible exact True.intro) | (with_reducible refine Lf.mk ?_ ?_) | (with_reducible intro hb))
      · have g1 : ((-(m : Int)) = 0) = False := eq_false (by omega)
        have hob := byStr_size [((48 + m % 10 : Nat) : Int)]
        simp only [List.length_cons, List.length_nil] at hob
        have hnx : (byStr [((48 + m % 10 : Nat) : Int)] ++ o).size = 1 + o.size := by rw [ByteArray.size_append, hob]
        by_cases hz : m % 10 = 0
        · have g2 : (-(m : Int)).tmod 10 = ((m % 10 : Nat) : Int) := by rw [dg_modn, hz]; rfl
          have g3 : (((m % 10 : Nat) : Int) < 0) = False := eq_false (by omega)
          refine Run ((And.intro (And.intro @g1 @g2) (And.intro @g3 (And.intro (dg_divn m) (dg_8 m))))) ?_; repeat' (first | (with_reducible exact True.intro) | (with_reducible refine Lf.mk ?_ ?_) | (with_reducible intro hb))
          exact Nxt (cast_succ) ((m / 10, byStr [((48 + m % 10 : Nat) : Int)] ++ o)) (⟨by omega, by rw [← dgt_pos (by omega)]; exact hI.2.1, by rw [hnx]; omega, .inr (by rw [hnx]; omega)⟩) (by first | omega | (simp; omega))
        · have g3 : ((-((m % 10 : Nat) : Int)) < 0) = True := eq_true (by omega)
          have g4 : (0 - (-((m % 10 : Nat) : Int))) = ((m % 10 : Nat) : Int) := by omega
          refine Run ((And.intro (And.intro @g1 (And.intro (dg_modn m) @g3)) (And.intro @g4 (And.intro (dg_divn m) (dg_8 m))))) ?_; repeat' (first | (with_reducible exact True.intro) | (with_reducible refine Lf.mk ?_ ?_) | (with_reducible intro hb))
          exact Nxt (cast_succ) ((m / 10, byStr [((48 + m % 10 : Nat) : Int)] ++ o)) (⟨by omega, by rw [← dgt_pos (by omega)]; exact hI.2.1, by rw [hnx]; omega, .inr (by rw [hnx]; omega)⟩) (by first | omega | (simp; omega))
    · have e : fmtB n = dgt n.toNat ⟨#[]⟩ := by unfold fmtB; rw [if_neg h0, if_neg h1]
      rw [e]
      refine Run ((And.intro @h0 @h1)) ?_; repeat' (first | (with_reducible exact True.intro) | (with_reducible refine Lf.mk ?_ ?_) | (with_reducible intro hb))
      refine Trn (α := Nat × ByteArray) [0, 4, 5, 10, 11, 12, 13, 14, 15, 16, 17, 18, 19, 20, 21, 22, 23, 24, 25, 26] (fun ⟨m, o⟩ => [(0, iT (m : Int)), (4, sT o)]) (fun ⟨m, o⟩ => []) (fun ⟨m, o⟩ => (m : Int) ≤ 2^63 - 1 ∧ dgt m o = dgt n.toNat ⟨#[]⟩ ∧ o.size + m ≤ 2^63 - 1) (fun ⟨m, o⟩ => m) ((n.toNat, ⟨#[]⟩)) (⟨by omega, rfl, by show 0 + _ ≤ _; omega⟩) ((show (((n.toNat : Nat) : Int)) = n by omega)) ?_; intro lx hI; obtain ⟨m, o⟩ := lx; (try simp only [List.nil_append, List.cons_append] at hI ⊢)
      by_cases hm : m = 0
      · subst hm
        have hd := hI.2.1
        rw [dgt_zero] at hd
        refine Run ((And.intro (show ((((0 : Nat) : Int))) = 0 from rfl) @hd)) ?_; repeat' (first | (with_reducible exact True.intro) | (with_reducible refine Lf.mk ?_ ?_) | (with_reducible intro hb))
      · have g1 : (((m : Int)) = 0) = False := eq_false (by omega)
        have hob := byStr_size [((48 + m % 10 : Nat) : Int)]
        simp only [List.length_cons, List.length_nil] at hob
        have hnx : (byStr [((48 + m % 10 : Nat) : Int)] ++ o).size = 1 + o.size := by rw [ByteArray.size_append, hob]
        have g3 : (((m % 10 : Nat) : Int) < 0) = False := eq_false (by omega)
        refine Run ((And.intro (And.intro @g1 (dg_mod m)) (And.intro @g3 (And.intro (dg_div m) (dg_8 m))))) ?_; repeat' (first | (with_reducible exact True.intro) | (with_reducible refine Lf.mk ?_ ?_) | (with_reducible intro hb))
        exact Nxt (cast_succ) ((m / 10, byStr [((48 + m % 10 : Nat) : Int)] ++ o)) (⟨by omega, by rw [← dgt_pos (by omega)]; exact hI.2.1, by rw [hnx]; omega⟩) (by first | omega | (simp; omega))
def fc7A48 := (And.intro (And.intro (And.intro sz3 ag3) (And.intro zv3 un3)) (And.intro (And.intro sz9 ag9) (And.intro zv9 (And.intro un9 okf22))))
theorem specTok_ok (s : ByteArray) (hs : s.size ≤ 2^20) (n : Int) (hn : ok64 n) : FnS Tryd.prog 7 [] [sT s, iT n] [] (sT (s ++ ⟨#[46]⟩ ++ fmtB n)) := by
  refine FnS.go [0, 1, 4] [] Tryd.func7 rfl (fun kt kz => ?_)
  have fcx := fc7A48
  simp only [Tryd.f7]
  have hz := fmtB_size hn
  have h1 : (ByteArray.mk #[46]).size = 1 := rfl
  refine Run (cast_succ) ?_; repeat' (first | (with_reducible exact True.intro) | (with_reducible refine Lf.mk ?_ ?_) | (with_reducible intro hb))
  refine Cal (cast_succ) (specFmt_ok n hn) ?_
  refine Run (cast_succ) ?_; repeat' (first | (with_reducible exact True.intro) | (with_reducible refine Lf.mk ?_ ?_) | (with_reducible intro hb))
def fc23A48 := (And.intro (And.intro (And.intro sz3 ag3) (And.intro zv3 un3)) (And.intro (And.intro sz9 ag9) (And.intro zv9 (And.intro un9 okf38))))
theorem implFmt_of (b : Nat) (x : Obj) (n : Int) (hn : ok64 n) (H : FnS Tryd.prog 38 [(1, .gl b x)] [iT n] [(1, .gl b x)] (sT (fmtB n))) : FnS Tryd.prog 23 [(1, .gl b x)] [iT n] [(1, .gl b x)] (sT (fmtB n)) := by
  refine FnS.go [0, 2] [] Tryd.func23 rfl (fun kt kz => ?_)
  have fcx := fc23A48
  simp only [Tryd.f23]
  refine Run (cast_succ) ?_; repeat' (first | (with_reducible exact True.intro) | (with_reducible refine Lf.mk ?_ ?_) | (with_reducible intro hb))
  refine CalO (cast_succ) (H) ?_
  refine Run (cast_succ) ?_; repeat' (first | (with_reducible exact True.intro) | (with_reducible refine Lf.mk ?_ ?_) | (with_reducible intro hb))
def fc8A48 := (And.intro (And.intro (And.intro sz3 ag3) (And.intro zv3 un3)) (And.intro (And.intro sz9 ag9) (And.intro zv9 (And.intro un9 okf23))))
theorem implTok_of (b : Nat) (x : Obj) (s : ByteArray) (hs : s.size ≤ 2^20) (n : Int) (hn : ok64 n) (H : FnS Tryd.prog 23 [(1, .gl b x)] [iT n] [(1, .gl b x)] (sT (fmtB n))) : FnS Tryd.prog 8 [(1, .gl b x)] [sT s, iT n] [(1, .gl b x)] (sT (s ++ ⟨#[46]⟩ ++ fmtB n)) := by
  refine FnS.go [0, 1, 4] [] Tryd.func8 rfl (fun kt kz => ?_)
  have fcx := fc8A48
  simp only [Tryd.f8]
  have hz := fmtB_size hn
  have h1 : (ByteArray.mk #[46]).size = 1 := rfl
  refine Run (cast_succ) ?_; repeat' (first | (with_reducible exact True.intro) | (with_reducible refine Lf.mk ?_ ?_) | (with_reducible intro hb))
  refine CalO (cast_succ) (H) ?_
  refine Run (cast_succ) ?_; repeat' (first | (with_reducible exact True.intro) | (with_reducible refine Lf.mk ?_ ?_) | (with_reducible intro hb))
def fc3A48 := (And.intro (And.intro (And.intro sz3 (And.intro ag3 zv3)) (And.intro (And.intro un3 sz4) (And.intro ag4 zv4))) (And.intro (And.intro un4 (And.intro sz9 ag9)) (And.intro (And.intro zv9 un9) (And.intro okf7 okf8))))
theorem tokenOf_law (b : Nat) (x : Obj) (s : ByteArray) (n : Int) (hs : okS (2^48) s) (hn : ok64 n) (H : FnS Tryd.prog 38 [(1, .gl b x)] [iT n] [(1, .gl b x)] (sT (fmtB n))) : FnS Tryd.prog 3 [(1, .gl b x)] [sT s, iT n] [(1, .gl b x)] (bT true) := by
  refine FnS.go [0, 1, 4, 5, 6, 9, 18] [] Tryd.func3 rfl (fun kt kz => ?_)
  have fcx := fc3A48
  simp only [Tryd.f3]
  have hs' : s.size ≤ 2^48 := hs
  by_cases hl : (1048576 : Int) < (s.size : Int)
  · refine Run (@hl) ?_; repeat' (first | (with_reducible exact True.intro) | (with_reducible refine Lf.mk ?_ ?_) | (with_reducible intro hb))
  · refine Run (@hl) ?_; repeat' (first | (with_reducible exact True.intro) | (with_reducible refine Lf.mk ?_ ?_) | (with_reducible intro hb))
    refine Cal (cast_succ) (specTok_ok s (by omega) n hn) ?_
    refine Run (cast_succ) ?_; repeat' (first | (with_reducible exact True.intro) | (with_reducible refine Lf.mk ?_ ?_) | (with_reducible intro hb))
    refine CalO (cast_succ) (implTok_of b x s (by omega) n hn (implFmt_of b x n hn H)) ?_
    refine Run (cast_succ) ?_; repeat' (first | (with_reducible exact True.intro) | (with_reducible refine Lf.mk ?_ ?_) | (with_reducible intro hb))

end Go.VC.T
/- Texts joined: no program in sight. -/
set_option linter.unusedSimpArgs false
set_option linter.unusedVariables false
namespace Go.VC
open Go
def joinB (xs : List ByteArray) (sep : ByteArray) : ByteArray := ⟨(Lib.join (xs.map (·.data.toList)) sep.data.toList).toArray⟩
theorem joinB_nil (sep : ByteArray) : joinB [] sep = ⟨#[]⟩ := rfl
theorem join_snoc (s : List UInt8) (l : List UInt8) : ∀ ls : List (List UInt8), Lib.join (ls ++ [l]) s = if ls = [] then l else Lib.join ls s ++ s ++ l
  | [] => by rw [if_pos rfl]; exact Lib.join_one l s
  | x :: r => by
    rw [if_neg (by simp), List.cons_append, Lib.join_cons, Lib.join_cons]
    simp [Lib.joinTail]
theorem joinB_snoc (xs : List ByteArray) (y sep : ByteArray) : joinB (xs ++ [y]) sep = if xs = [] then y else joinB xs sep ++ sep ++ y := by
  unfold joinB
  rw [List.map_append, List.map_cons, List.map_nil, join_snoc]
  by_cases h : xs = []
  · subst h; rfl
  · rw [if_neg (by simpa using h), if_neg h]
    apply ByteArray.ext
    simp
theorem joinB_one (y sep : ByteArray) : joinB [y] sep = y := by have := joinB_snoc [] y sep; rw [if_pos rfl] at this; exact this
theorem joinB_zero {xs : List ByteArray} {sep : ByteArray} : joinB (xs.take 0) sep = ⟨#[]⟩ := rfl
theorem joinB_take0 {xs : List ByteArray} {sep : ByteArray} (h : 0 < xs.length) : joinB (xs.take 1) sep = xs[0] := by
  rw [show 1 = 0 + 1 from rfl, take_at h, List.take_zero, List.nil_append]; exact joinB_one _ _
theorem joinB_take {xs : List ByteArray} {sep : ByteArray} {i : Nat} (h : i < xs.length) (h0 : ¬ i = 0) : joinB (xs.take (i + 1)) sep = joinB (xs.take i) sep ++ sep ++ xs[i] := by
  rw [take_at h, joinB_snoc, if_neg]
  intro e
  have := congrArg List.length e
  rw [List.length_take, List.length_nil] at this
  omega
/-- The bytes in all. -/
def jz (sep : ByteArray) (xs : List ByteArray) : Nat := (xs.map fun x => x.size + sep.size).sum
theorem joinB_size {sep : ByteArray} {xs : List ByteArray} : ∀ i, (joinB (xs.take i) sep).size ≤ jz sep (xs.take i)
  | 0 => Nat.zero_le _
  | i + 1 => by
    by_cases h : i < xs.length
    · have ih := joinB_size (sep := sep) (xs := xs) i
      have e : jz sep (xs.take (i + 1)) = jz sep (xs.take i) + (xs[i].size + sep.size) := by unfold jz; rw [take_at h, List.map_append, List.sum_append]; rfl
      by_cases h0 : i = 0
      · subst h0
        have e1 := joinB_take0 (sep := sep) (by omega : 0 < xs.length)
        rw [e, show (0 : Nat) + 1 = 1 from rfl, e1]; omega
      · rw [e, joinB_take h h0, ByteArray.size_append, ByteArray.size_append]; omega
    · have ih := joinB_size (sep := sep) (xs := xs) i
      rw [List.take_of_length_le (by omega)] at ih ⊢
      exact ih
theorem jz_take {sep : ByteArray} {xs : List ByteArray} (i : Nat) : jz sep (xs.take i) ≤ jz sep xs := by
  unfold jz
  have : xs = xs.take i ++ xs.drop i := (List.take_append_drop i xs).symm
  conv => rhs; rw [this]
  rw [List.map_append, List.sum_append]
  omega
theorem jz_le {sep : ByteArray} {b : Nat} : ∀ {xs : List ByteArray}, (∀ x ∈ xs, x.size ≤ b) → jz sep xs ≤ xs.length * (b + sep.size)
  | [], _ => Nat.zero_le _
  | x :: r, h => by
    have ih := jz_le (sep := sep) (xs := r) fun y hy => h y (by simp [hy])
    have hx := h x (by simp)
    have e : jz sep (x :: r) = x.size + sep.size + jz sep r := by unfold jz; simp
    rw [e, List.length_cons, Nat.add_mul]
    omega
theorem joinB_le {sep : ByteArray} {xs : List ByteArray} {b : Nat} (h : ∀ x ∈ xs, x.size ≤ b) : (joinB xs sep).size ≤ xs.length * (b + sep.size) := by
  have h1 := joinB_size (sep := sep) (xs := xs) xs.length
  rw [List.take_length] at h1
  exact Nat.le_trans h1 (jz_le h)
theorem byI_append (a b : ByteArray) : byI (a ++ b) = byI a ++ byI b := by unfold byI; simp
theorem byI_byL (b : ByteArray) : byL (byI b) = some (b.data.toList.map fun x => (x.toNat : Int)) := by
  unfold byI
  generalize b.data.toList = l
  induction l with
  | nil => rfl
  | cons x r ih => simp only [List.map_cons, byL, ih]; rfl
theorem byStr_byI (b : ByteArray) : byStr (b.data.toList.map fun x => (x.toNat : Int)) = b := by
  have : ∀ (l : List UInt8) (r : ByteArray), (l.map fun x => (x.toNat : Int)).foldl (fun r n => r.push (UInt8.ofNat n.toNat)) r = r ++ ⟨l.toArray⟩ := by
    intro l
    induction l with
    | nil => intro r; apply ByteArray.ext; simp
    | cons x l ih =>
      intro r
      rw [List.map_cons, List.foldl_cons, ih]
      apply ByteArray.ext
      simp
  unfold byStr
  rw [this]
  apply ByteArray.ext
  simp
end Go.VC
