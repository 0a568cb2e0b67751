/- Facts of the program: sizes, zero values and fields of its types. -/
import Derived.Test.YteinefllijajdaaProg
import Derived.Test.YteinefllijajdaaGW3
import Derived.KernelRfl
import Derived.Shelf.RegionOpenPlain
import Derived.WalkKit
import Derived.Lib.Walk
import Derived.Lib.AppendZerosOnto
import Derived.Lib.Overlaps
import Derived.Laws.Externs
import Derived.Laws.IdiomCopy
import Derived.Test.YteinefllijajdaaGW4
namespace Go.VC.F
theorem ai {a b : Prop} (h : a) (k : b) : a ∧ b := ⟨h, k⟩
open Go Go.VC
open Go.Proofs
theorem sz3 : szOf Try.prog 3 = some 1 := by kernel_rfl
theorem co3 : Program.cellsOf Try.prog 3 = 1 := by kernel_rfl
theorem ag3 : aggB Try.prog 3 = false := by kernel_rfl
theorem zv3 : wpO.zvOf Try.prog 3 = some [.int .i64 0] := by kernel_rfl
theorem un3 : Try.prog.underlying 3 = some (.int .i64) := by kernel_rfl
theorem sz4 : szOf Try.prog 4 = some 1 := by kernel_rfl
theorem ag4 : aggB Try.prog 4 = false := by kernel_rfl
theorem zv4 : wpO.zvOf Try.prog 4 = some [.bool false] := by kernel_rfl
theorem un4 : Try.prog.underlying 4 = some .bool := by kernel_rfl
theorem sz5 : szOf Try.prog 5 = some 1 := by kernel_rfl
theorem ag5 : aggB Try.prog 5 = false := by kernel_rfl
theorem zv5 : wpO.zvOf Try.prog 5 = some [.int .u8 0] := by kernel_rfl
theorem un5 : Try.prog.underlying 5 = some (.int .u8) := by kernel_rfl
theorem sz9 : szOf Try.prog 9 = some 1 := by kernel_rfl
theorem co9 : Program.cellsOf Try.prog 9 = 1 := by kernel_rfl
theorem by9 : Program.bytesOf Try.prog 9 = 16 := by kernel_rfl
theorem ag9 : aggB Try.prog 9 = false := by kernel_rfl
theorem zv9 : wpO.zvOf Try.prog 9 = some [.string ⟨#[]⟩] := by kernel_rfl
theorem un9 : Try.prog.underlying 9 = some .string := by kernel_rfl
theorem sz22 : szOf Try.prog 22 = some 1 := by kernel_rfl
theorem co22 : Program.cellsOf Try.prog 22 = 1 := by kernel_rfl
theorem ag22 : aggB Try.prog 22 = false := by kernel_rfl
theorem zv22 : wpO.zvOf Try.prog 22 = some [.slice none 0 0] := by kernel_rfl
theorem sb22 : slB Try.prog 22 = true := by kernel_rfl
theorem un22 : Try.prog.underlying 22 = some (.slice 93) := by kernel_rfl
theorem el22 : elOf Try.prog 22 = some (93, 2) := by kernel_rfl
theorem ap22 : apOf Try.prog 22 = some (93, 2, 32, [.int .i64 0, .slice none 0 0]) := by kernel_rfl
theorem sz24 : szOf Try.prog 24 = some 1 := by kernel_rfl
theorem co24 : Program.cellsOf Try.prog 24 = 1 := by kernel_rfl
theorem ag24 : aggB Try.prog 24 = true := by kernel_rfl
theorem zv24 : wpO.zvOf Try.prog 24 = some [.slice none 0 0] := by kernel_rfl
theorem st24 : strOf Try.prog 24 = some [(22, 0)] := by kernel_rfl
theorem fl24_0 : fldOf Try.prog 24 0 = some (0, 22) := by kernel_rfl
theorem pl24 : plOf Try.prog 24 = some ([(0, 1)], [.slice none 0 0]) := by kernel_rfl
theorem sz26 : szOf Try.prog 26 = some 1 := by kernel_rfl
theorem ag26 : aggB Try.prog 26 = false := by kernel_rfl
theorem zv26 : wpO.zvOf Try.prog 26 = some [.slice none 0 0] := by kernel_rfl
theorem sb26 : slB Try.prog 26 = true := by kernel_rfl
theorem un26 : Try.prog.underlying 26 = some (.slice 57) := by kernel_rfl
theorem el26 : elOf Try.prog 26 = some (57, 2) := by kernel_rfl
theorem ap26 : apOf Try.prog 26 = some (57, 2, 32, [.int .i64 0, .slice none 0 0]) := by kernel_rfl
theorem sz28 : szOf Try.prog 28 = some 1 := by kernel_rfl
theorem ag28 : aggB Try.prog 28 = true := by kernel_rfl
theorem zv28 : wpO.zvOf Try.prog 28 = some [.slice none 0 0] := by kernel_rfl
theorem fl28_0 : fldOf Try.prog 28 0 = some (0, 26) := by kernel_rfl
theorem pl28 : plOf Try.prog 28 = some ([(0, 1)], [.slice none 0 0]) := by kernel_rfl
theorem sz55 : szOf Try.prog 55 = some 1 := by kernel_rfl
theorem co55 : Program.cellsOf Try.prog 55 = 1 := by kernel_rfl
theorem ag55 : aggB Try.prog 55 = false := by kernel_rfl
theorem zv55 : wpO.zvOf Try.prog 55 = some [.slice none 0 0] := by kernel_rfl
theorem sb55 : slB Try.prog 55 = true := by kernel_rfl
theorem un55 : Try.prog.underlying 55 = some (.slice 9) := by kernel_rfl
theorem el55 : elOf Try.prog 55 = some (9, 1) := by kernel_rfl
theorem ap55 : apOf Try.prog 55 = some (9, 1, 16, [.string ⟨#[]⟩]) := by kernel_rfl
theorem sz57 : szOf Try.prog 57 = some 2 := by kernel_rfl
theorem ag57 : aggB Try.prog 57 = true := by kernel_rfl
theorem zv57 : wpO.zvOf Try.prog 57 = some [.int .i64 0, .slice none 0 0] := by kernel_rfl
theorem fl57_0 : fldOf Try.prog 57 0 = some (0, 3) := by kernel_rfl
theorem fl57_1 : fldOf Try.prog 57 1 = some (1, 55) := by kernel_rfl
theorem pl57 : plOf Try.prog 57 = some ([(0, 1), (1, 1)], [.int .i64 0, .slice none 0 0]) := by kernel_rfl
theorem sz93 : szOf Try.prog 93 = some 2 := by kernel_rfl
theorem co93 : Program.cellsOf Try.prog 93 = 2 := by kernel_rfl
theorem by93 : Program.bytesOf Try.prog 93 = 32 := by kernel_rfl
theorem ag93 : aggB Try.prog 93 = true := by kernel_rfl
theorem zv93 : wpO.zvOf Try.prog 93 = some [.int .i64 0, .slice none 0 0] := by kernel_rfl
theorem st93 : strOf Try.prog 93 = some [(3, 0), (55, 1)] := by kernel_rfl
theorem fl93_0 : fldOf Try.prog 93 0 = some (0, 3) := by kernel_rfl
theorem fl93_1 : fldOf Try.prog 93 1 = some (1, 55) := by kernel_rfl
theorem pl93 : plOf Try.prog 93 = some ([(0, 1), (1, 1)], [.int .i64 0, .slice none 0 0]) := by kernel_rfl
theorem sz97 : szOf Try.prog 97 = some 1 := by kernel_rfl
theorem ag97 : aggB Try.prog 97 = false := by kernel_rfl
theorem zv97 : wpO.zvOf Try.prog 97 = some [.slice none 0 0] := by kernel_rfl
theorem sb97 : slB Try.prog 97 = true := by kernel_rfl
theorem un97 : Try.prog.underlying 97 = some (.slice 26) := by kernel_rfl
theorem el97 : elOf Try.prog 97 = some (26, 1) := by kernel_rfl
theorem ap97 : apOf Try.prog 97 = some (26, 1, 24, [.slice none 0 0]) := by kernel_rfl
theorem sz99 : szOf Try.prog 99 = some 1 := by kernel_rfl
theorem ag99 : aggB Try.prog 99 = false := by kernel_rfl
theorem zv99 : wpO.zvOf Try.prog 99 = some [.pointer none] := by kernel_rfl
theorem un99 : Try.prog.underlying 99 = some (.pointer 28) := by kernel_rfl
theorem sz102 : szOf Try.prog 102 = some 1 := by kernel_rfl
theorem ag102 : aggB Try.prog 102 = false := by kernel_rfl
theorem zv102 : wpO.zvOf Try.prog 102 = some [.nilFunc] := by kernel_rfl
theorem sz127 : szOf Try.prog 127 = some 1 := by kernel_rfl
theorem ag127 : aggB Try.prog 127 = false := by kernel_rfl
theorem zv127 : wpO.zvOf Try.prog 127 = some [.int .u64 0] := by kernel_rfl
theorem un127 : Try.prog.underlying 127 = some (.int .u64) := by kernel_rfl
theorem sz139 : szOf Try.prog 139 = some 1 := by kernel_rfl
theorem ag139 : aggB Try.prog 139 = false := by kernel_rfl
theorem zv139 : wpO.zvOf Try.prog 139 = some [.slice none 0 0] := by kernel_rfl
theorem sb139 : slB Try.prog 139 = true := by kernel_rfl
theorem un139 : Try.prog.underlying 139 = some (.slice 5) := by kernel_rfl
theorem el139 : elOf Try.prog 139 = some (5, 1) := by kernel_rfl
theorem ap139 : apOf Try.prog 139 = some (5, 1, 1, [.int .u8 0]) := by kernel_rfl
theorem okf6 : fnOk Try.prog 6 = true := by kernel_rfl
theorem okf7 : fnOk Try.prog 7 = true := by kernel_rfl
theorem okf8 : fnOk Try.prog 8 = true := by kernel_rfl
theorem okf9 : fnOk Try.prog 9 = true := by kernel_rfl
theorem okf10 : fnOk Try.prog 10 = true := by kernel_rfl
theorem okf11 : fnOk Try.prog 11 = true := by kernel_rfl
theorem okf12 : fnOk Try.prog 12 = true := by kernel_rfl
theorem okf24 : fnOk Try.prog 24 = true := by kernel_rfl
theorem okf25 : fnOk Try.prog 25 = true := by kernel_rfl
theorem okf26 : fnOk Try.prog 26 = true := by kernel_rfl
theorem okf27 : fnOk Try.prog 27 = true := by kernel_rfl
theorem okf28 : fnOk Try.prog 28 = true := by kernel_rfl
theorem okf29 : fnOk Try.prog 29 = true := by kernel_rfl
theorem okf30 : fnOk Try.prog 30 = true := by kernel_rfl
theorem okf31 : fnOk Try.prog 31 = true := by kernel_rfl
theorem okf32 : fnOk Try.prog 32 = true := by kernel_rfl
theorem okf33 : fnOk Try.prog 33 = true := by kernel_rfl
theorem okf34 : fnOk Try.prog 34 = true := by kernel_rfl
theorem okf35 : fnOk Try.prog 35 = true := by kernel_rfl
theorem okf38 : fnOk Try.prog 38 = true := by kernel_rfl
theorem okf54 : fnOk Try.prog 54 = true := by kernel_rfl
theorem okf55 : fnOk Try.prog 55 = true := by kernel_rfl
theorem okf56 : fnOk Try.prog 56 = true := by kernel_rfl
theorem okf57 : fnOk Try.prog 57 = true := by kernel_rfl
theorem okf58 : fnOk Try.prog 58 = true := by kernel_rfl
theorem okf59 : fnOk Try.prog 59 = true := by kernel_rfl
theorem okf60 : fnOk Try.prog 60 = true := by kernel_rfl
theorem okf61 : fnOk Try.prog 61 = true := by kernel_rfl
theorem okf62 : fnOk Try.prog 62 = true := by kernel_rfl
theorem okf63 : fnOk Try.prog 63 = true := by kernel_rfl
theorem okf64 : fnOk Try.prog 64 = true := by kernel_rfl
theorem okf65 : fnOk Try.prog 65 = true := by kernel_rfl
theorem okf66 : fnOk Try.prog 66 = true := by kernel_rfl
theorem okf67 : fnOk Try.prog 67 = true := by kernel_rfl
theorem okf72 : fnOk Try.prog 72 = true := by kernel_rfl
theorem okf80 : fnOk Try.prog 80 = true := by kernel_rfl
theorem okf87 : fnOk Try.prog 87 = true := by kernel_rfl
theorem okf88 : fnOk Try.prog 88 = true := by kernel_rfl
theorem okf89 : fnOk Try.prog 89 = true := by kernel_rfl
theorem okf90 : fnOk Try.prog 90 = true := by kernel_rfl
theorem okf91 : fnOk Try.prog 91 = true := by kernel_rfl
theorem okf92 : fnOk Try.prog 92 = true := by kernel_rfl
theorem okf95 : fnOk Try.prog 95 = true := by kernel_rfl
theorem okf114 : fnOk Try.prog 114 = true := by kernel_rfl
theorem okf119 : fnOk Try.prog 119 = true := by kernel_rfl
theorem okf120 : fnOk Try.prog 120 = true := by kernel_rfl
theorem mixed : Try.prog.follows .mixedOrders = true := by kernel_rfl
end Go.VC.F
/- The data of the program, as trees. -/
namespace Go.VC
open Go
/-- A type. -/
inductive Ty where
  | mk (kind : Int) (labels : List ByteArray) (args : List Ty)
  deriving Inhabited
def Ty.kind : Ty → Int | .mk k _ _ => k
def Ty.labels : Ty → List ByteArray | .mk _ l _ => l
def Ty.args : Ty → List Ty | .mk _ _ a => a
mutual
def eTy : Ty → List IV
  | .mk k l a => [.sc (.int .i64 k), slI eS l, .sl a.length (eTyL a)]
def eTyL : List Ty → List IV
  | [] => []
  | t :: r => eTy t ++ eTyL r
end
theorem eTyL_eq : ∀ (l : List Ty), eTyL l = l.flatMap eTy
  | [] => rfl
  | t :: r => by rw [eTyL, eTyL_eq r, List.flatMap_cons]
theorem eTy_eta (t : Ty) : eTy t = [.sc (.int .i64 t.kind), slI eS t.labels, slI eTy t.args] := by
  cases t with
  | mk k l a => rw [eTy, eTyL_eq]; rfl
instance : Wid eTy 3 := ⟨fun t => by rw [eTy_eta]; rfl⟩
/-- A value. -/
inductive Val where
  | mk (kind n : Int) (labels : List ByteArray) (args : List Val)
  deriving Inhabited
def Val.kind : Val → Int | .mk k _ _ _ => k
def Val.n : Val → Int | .mk _ n _ _ => n
def Val.labels : Val → List ByteArray | .mk _ _ l _ => l
def Val.args : Val → List Val | .mk _ _ _ a => a
mutual
def eVal : Val → List IV
  | .mk k n l a => [.sc (.int .i64 k), .sc (.int .i64 n), slI eS l, .sl a.length (eValL a)]
def eValL : List Val → List IV
  | [] => []
  | t :: r => eVal t ++ eValL r
end
theorem eValL_eq : ∀ (l : List Val), eValL l = l.flatMap eVal
  | [] => rfl
  | t :: r => by rw [eValL, eValL_eq r, List.flatMap_cons]
theorem eVal_eta (t : Val) : eVal t = [.sc (.int .i64 t.kind), .sc (.int .i64 t.n), slI eS t.labels, slI eVal t.args] := by
  cases t with
  | mk k n l a => rw [eVal, eValL_eq]; rfl
instance : Wid eVal 4 := ⟨fun t => by rw [eVal_eta]; rfl⟩
/-- A term. -/
inductive Tm where
  | mk (kind : Int) (name : ByteArray) (n : Int) (ty : Ty) (labels : List ByteArray) (args : List Tm)
  deriving Inhabited
def Tm.kind : Tm → Int | .mk k _ _ _ _ _ => k
def Tm.name : Tm → ByteArray | .mk _ s _ _ _ _ => s
def Tm.n : Tm → Int | .mk _ _ n _ _ _ => n
def Tm.ty : Tm → Ty | .mk _ _ _ t _ _ => t
def Tm.labels : Tm → List ByteArray | .mk _ _ _ _ l _ => l
def Tm.args : Tm → List Tm | .mk _ _ _ _ _ a => a
mutual
def eTm : Tm → List IV
  | .mk k s n t l a => [.sc (.int .i64 k), .sc (.string s), .sc (.int .i64 n), .sc (.int .i64 t.kind), slI eS t.labels, slI eTy t.args, slI eS l, .sl a.length (eTmL a)]
def eTmL : List Tm → List IV
  | [] => []
  | t :: r => eTm t ++ eTmL r
end
theorem eTmL_eq : ∀ (l : List Tm), eTmL l = l.flatMap eTm
  | [] => rfl
  | t :: r => by rw [eTmL, eTmL_eq r, List.flatMap_cons]
theorem eTm_eta (t : Tm) : eTm t = [.sc (.int .i64 t.kind), .sc (.string t.name), .sc (.int .i64 t.n), .sc (.int .i64 t.ty.kind), slI eS t.ty.labels, slI eTy t.ty.args, slI eS t.labels, slI eTm t.args] := by
  cases t with
  | mk k s n t l a => rw [eTm, eTmL_eq]; rfl
instance : Wid eTm 8 := ⟨fun t => by rw [eTm_eta]; rfl⟩
/-- A plan. -/
inductive Pl where
  | mk (kind : Int) (var table : ByteArray) (cond : Tm) (keys : List Tm) (args : List Pl)
  deriving Inhabited
def Pl.kind : Pl → Int | .mk k _ _ _ _ _ => k
def Pl.var : Pl → ByteArray | .mk _ s _ _ _ _ => s
def Pl.table : Pl → ByteArray | .mk _ _ s _ _ _ => s
def Pl.cond : Pl → Tm | .mk _ _ _ t _ _ => t
def Pl.keys : Pl → List Tm | .mk _ _ _ _ l _ => l
def Pl.args : Pl → List Pl | .mk _ _ _ _ _ a => a
mutual
def ePl : Pl → List IV
  | .mk k s u t l a => [.sc (.int .i64 k), .sc (.string s), .sc (.string u)] ++ eTm t ++ [slI eTm l, .sl a.length (ePlL a)]
def ePlL : List Pl → List IV
  | [] => []
  | t :: r => ePl t ++ ePlL r
end
theorem ePlL_eq : ∀ (l : List Pl), ePlL l = l.flatMap ePl
  | [] => rfl
  | t :: r => by rw [ePlL, ePlL_eq r, List.flatMap_cons]
theorem ePl_eta (t : Pl) : ePl t = [.sc (.int .i64 t.kind), .sc (.string t.var), .sc (.string t.table), .sc (.int .i64 t.cond.kind), .sc (.string t.cond.name), .sc (.int .i64 t.cond.n), .sc (.int .i64 t.cond.ty.kind), slI eS t.cond.ty.labels, slI eTy t.cond.ty.args, slI eS t.cond.labels, slI eTm t.cond.args, slI eTm t.keys, slI ePl t.args] := by
  cases t with
  | mk k s u t l a => rw [ePl, ePlL_eq, eTm_eta]; rfl
instance : Wid ePl 13 := ⟨fun t => by rw [ePl_eta]; rfl⟩
/-- Products; polynomials are lists of them. -/
structure Mono where
  coef : Int
  vars : List ByteArray
def eMono (a : Mono) : List IV := [.sc (.int .i64 a.coef), slI eS a.vars]
instance : Wid eMono 2 := ⟨fun _ => rfl⟩
structure Ann where
  value : Val
  poly : List Mono
def eAnn (a : Ann) : List IV := eVal a.value ++ [slI eMono a.poly]
theorem eAnn_eta (a : Ann) : eAnn a = [.sc (.int .i64 a.value.kind), .sc (.int .i64 a.value.n), slI eS a.value.labels, slI eVal a.value.args, slI eMono a.poly] := by rw [eAnn, eVal_eta]; rfl
instance : Wid eAnn 5 := ⟨fun t => by rw [eAnn_eta]; rfl⟩
structure Decl where
  name : ByteArray
  row : Ty
def eDecl (a : Decl) : List IV := .sc (.string a.name) :: eTy a.row
theorem eDecl_eta (a : Decl) : eDecl a = [.sc (.string a.name), .sc (.int .i64 a.row.kind), slI eS a.row.labels, slI eTy a.row.args] := by rw [eDecl, eTy_eta]
instance : Wid eDecl 4 := ⟨fun t => by rw [eDecl_eta]; rfl⟩
structure TData where
  name : ByteArray
  rows : List Val
def eTData (a : TData) : List IV := [.sc (.string a.name), slI eVal a.rows]
instance : Wid eTData 2 := ⟨fun _ => rfl⟩
structure Gn where
  var : ByteArray
  table : ByteArray
def eGn (a : Gn) : List IV := [.sc (.string a.var), .sc (.string a.table)]
instance : Wid eGn 2 := ⟨fun _ => rfl⟩
structure Vw where
  table : ByteArray
  cond : Tm
  cols : List ByteArray
  key : ByteArray
def eVw (a : Vw) : List IV := .sc (.string a.table) :: (eTm a.cond ++ [slI eS a.cols, .sc (.string a.key)])
theorem eVw_eta (a : Vw) : eVw a = [.sc (.string a.table), .sc (.int .i64 a.cond.kind), .sc (.string a.cond.name), .sc (.int .i64 a.cond.n), .sc (.int .i64 a.cond.ty.kind), slI eS a.cond.ty.labels, slI eTy a.cond.ty.args, slI eS a.cond.labels, slI eTm a.cond.args, slI eS a.cols, .sc (.string a.key)] := by rw [eVw, eTm_eta]; rfl
instance : Wid eVw 11 := ⟨fun t => by rw [eVw_eta]; rfl⟩
end Go.VC
/- How much a datum counts, when it is measured: no statement of a program. -/
set_option linter.unusedSimpArgs false
set_option linter.unusedVariables false
namespace Go.VC
open Go
/-- What is left after taking. -/
def szR (n : Nat) (left : Int) : Int := if (n : Int) ≤ left then left - n else -1
theorem szR_add (n m : Nat) (l : Int) : szR m (szR n l) = szR (n + m) l := by
  unfold szR
  split <;> split <;> split <;> omega
theorem szR_le {n : Nat} {l : Int} (h : 0 ≤ l) : -1 ≤ szR n l ∧ szR n l ≤ l := by unfold szR; split <;> omega
theorem szR_sub {n : Nat} {l : Int} (h : 0 ≤ l - n) : l - n = szR n l := by unfold szR; rw [if_pos (by omega)]
theorem szR_neg {n m : Nat} {l : Int} (h : szR n l < 0) (hm : n ≤ m) : szR m l = -1 := by unfold szR at h ⊢; split at h <;> split <;> omega
theorem szR_nil {n m : Nat} {l : Int} (h : l - n < 0) (hm : n ≤ m) : szR m l = -1 := by unfold szR; split <;> omega
theorem szR_spec (n : Nat) (l : Int) : ((n : Int) ≤ l ∧ szR n l = l - n) ∨ (l < n ∧ szR n l = -1) := by unfold szR; split <;> omega
def zL {α : Type} (z : α → Nat) (l : List α) : Nat := l.length + (l.map z).sum
def zT {α : Type} (z : α → Nat) (l : List α) (i : Nat) : Nat := l.length + ((l.take i).map z).sum
theorem zT_zero {α : Type} {z : α → Nat} {l : List α} : zT z l 0 = l.length := by simp [zT]
theorem zT_all {α : Type} {z : α → Nat} {l : List α} {i : Nat} (h : l.length ≤ i) : zT z l i = zL z l := by rw [zT, List.take_of_length_le h, zL]
theorem zT_succ {α : Type} {z : α → Nat} {l : List α} {i : Nat} (h : i < l.length) : zT z l (i + 1) = zT z l i + z l[i] := by
  rw [zT, zT, List.take_succ_eq_append_getElem h, List.map_append, List.sum_append]; simp; omega
theorem sum_take_le {α : Type} {z : α → Nat} : ∀ {l : List α} {i : Nat}, ((l.take i).map z).sum ≤ (l.map z).sum
  | [], i => by simp
  | a :: r, 0 => by simp
  | a :: r, i + 1 => by
    have := sum_take_le (z := z) (l := r) (i := i)
    simp only [List.take_succ_cons, List.map_cons, List.sum_cons]; omega
theorem zT_le {α : Type} {z : α → Nat} {l : List α} {i : Nat} : zT z l i ≤ zL z l := by unfold zT zL; have := sum_take_le (z := z) (l := l) (i := i); omega
theorem zL_len {α : Type} {z : α → Nat} {l : List α} : l.length ≤ zL z l := by unfold zL; omega
def zS (s : ByteArray) : Nat := s.size
abbrev zSL (l : List ByteArray) : Nat := zL zS l
def okS (b : Nat) (s : ByteArray) : Prop := s.size ≤ b
def ok64 (n : Int) : Prop := -9223372036854775808 ≤ n ∧ n ≤ 9223372036854775807
def okLs {α : Type} (b : Nat) (ok : Nat → α → Prop) (l : List α) : Prop := l.length ≤ b ∧ ∀ s ∈ l, ok b s
theorem okI_int {b : Nat} {n : Int} : okI b (.sc (.int .i64 n)) ↔ ok64 n := by simp [okI, okV, ok64, IntKind.min, IntKind.max, IntKind.signed, IntKind.bits]
theorem okI_str {b : Nat} {s : ByteArray} : okI b (.sc (.string s)) ↔ okS b s := by simp [okI, okV, okS]
theorem okI_L {b : Nat} {α : Type} {E : α → List IV} {l : List α} : okI b (slI E l) ↔ okLs b (fun b t => okL b (E t)) l := by simp [okI_slI, okLs]
theorem okL_nil {b : Nat} : okL b [] ↔ True := by simp [okL]
theorem okL_cons {b : Nat} {x : IV} {r : List IV} : okL b (x :: r) ↔ okI b x ∧ okL b r := by simp [okL]
theorem okS_fn : (fun b s => okL b (eS s)) = okS := by funext b s; simp [eS, okL_cons, okL_nil, okI_str]
theorem mI_int {n : Int} {k : IntKind} : mI (.sc (.int k n)) = 0 := by simp [mI, mV]
theorem mI_str {s : ByteArray} : mI (.sc (.string s)) = zS s := by simp [mI, mV, zS]
theorem mI_L {α : Type} {E : α → List IV} {l : List α} : mI (slI E l) = zL (fun x => mL (E x)) l := by rw [mI_slI, zL]
theorem mL_nil : mL [] = 0 := by simp [mL]
theorem mL_cons {x : IV} {r : List IV} : mL (x :: r) = mI x + mL r := by simp [mL]
theorem mS_fn : (fun s => mL (eS s)) = zS := by funext s; simp [eS, mL_cons, mL_nil, mI_str]
theorem okLs_at {α : Type} {b : Nat} {ok : Nat → α → Prop} {l : List α} (h : okLs b ok l) {i : Nat} (hi : i < l.length) : ok b l[i] := h.2 _ (List.getElem_mem hi)
def okTy (b : Nat) (t : Ty) : Prop := okL b (eTy t)
theorem okTy_fn : (fun b t => okL b (eTy t)) = okTy := rfl
def zTy (t : Ty) : Nat := mL (eTy t)
theorem mTy_fn : (fun t => mL (eTy t)) = zTy := rfl
def okVal (b : Nat) (t : Val) : Prop := okL b (eVal t)
theorem okVal_fn : (fun b t => okL b (eVal t)) = okVal := rfl
def zVal (t : Val) : Nat := mL (eVal t)
theorem mVal_fn : (fun t => mL (eVal t)) = zVal := rfl
def okTm (b : Nat) (t : Tm) : Prop := okL b (eTm t)
theorem okTm_fn : (fun b t => okL b (eTm t)) = okTm := rfl
def zTm (t : Tm) : Nat := mL (eTm t)
theorem mTm_fn : (fun t => mL (eTm t)) = zTm := rfl
def okPl (b : Nat) (t : Pl) : Prop := okL b (ePl t)
theorem okPl_fn : (fun b t => okL b (ePl t)) = okPl := rfl
def zPl (t : Pl) : Nat := mL (ePl t)
theorem mPl_fn : (fun t => mL (ePl t)) = zPl := rfl
def okMono (b : Nat) (t : Mono) : Prop := okL b (eMono t)
theorem okMono_fn : (fun b t => okL b (eMono t)) = okMono := rfl
def zMono (t : Mono) : Nat := mL (eMono t)
theorem mMono_fn : (fun t => mL (eMono t)) = zMono := rfl
theorem okMono_iff {b : Nat} {t : Mono} : okMono b t ↔ ok64 t.coef ∧ okLs b okS t.vars := by
  conv => lhs; unfold okMono
  rw [eMono]; simp only [okL_cons, okL_nil, okI_int, okI_str, okI_L, okS_fn, okTy_fn, okVal_fn, okTm_fn, okPl_fn, okMono_fn, and_true, and_assoc]
theorem zMono_eta (t : Mono) : zMono t = zSL t.vars := by
  conv => lhs; unfold zMono
  rw [eMono]; simp only [mL_cons, mL_nil, mI_int, mI_str, mI_L, mS_fn, mTy_fn, mVal_fn, mTm_fn, mPl_fn, mMono_fn, zSL, Nat.zero_add, Nat.add_zero, Nat.add_assoc]
def okAnn (b : Nat) (t : Ann) : Prop := okL b (eAnn t)
def zAnn (t : Ann) : Nat := mL (eAnn t)
def okDecl (b : Nat) (t : Decl) : Prop := okL b (eDecl t)
def zDecl (t : Decl) : Nat := mL (eDecl t)
def okTData (b : Nat) (t : TData) : Prop := okL b (eTData t)
def zTData (t : TData) : Nat := mL (eTData t)
def okGn (b : Nat) (t : Gn) : Prop := okL b (eGn t)
def zGn (t : Gn) : Nat := mL (eGn t)
def okVw (b : Nat) (t : Vw) : Prop := okL b (eVw t)
def zVw (t : Vw) : Nat := mL (eVw t)
def ePoly (l : List Mono) : List IV := [slI eMono l]
theorem ePoly_eta (l : List Mono) : ePoly l = [slI eMono l] := rfl
instance : Wid ePoly 1 := ⟨fun _ => rfl⟩
def okPoly (b : Nat) (t : List Mono) : Prop := okL b (ePoly t)
def zPoly (t : List Mono) : Nat := mL (ePoly t)
theorem okPoly_down {B b : Nat} {t : List Mono} (h : okPoly B t) (g : zPoly t ≤ b) : okPoly b t := okL_down h g
theorem okPoly_iff {b : Nat} {t : List Mono} : okPoly b t ↔ okLs b okMono t := by
  conv => lhs; unfold okPoly
  rw [ePoly]; simp only [okL_cons, okL_nil, okI_L, okMono_fn, and_true]
theorem zPoly_eta (t : List Mono) : zPoly t = zL zMono t := by
  conv => lhs; unfold zPoly
  rw [ePoly]; simp only [mL_cons, mL_nil, mI_L, mMono_fn, Nat.add_zero]
def eSch (l : List Decl) : List IV := [slI eDecl l]
instance : Wid eSch 1 := ⟨fun _ => rfl⟩
def okSch (b : Nat) (t : List Decl) : Prop := okL b (eSch t)
def zSch (t : List Decl) : Nat := mL (eSch t)
def eDbs (l : List TData) : List IV := [slI eTData l]
instance : Wid eDbs 1 := ⟨fun _ => rfl⟩
def okDbs (b : Nat) (t : List TData) : Prop := okL b (eDbs t)
def zDbs (t : List TData) : Nat := mL (eDbs t)
theorem eMono_eta (t : Mono) : eMono t = [.sc (.int .i64 t.coef), slI eS t.vars] := rfl
theorem eTData_eta (t : TData) : eTData t = [.sc (.string t.name), slI eVal t.rows] := rfl
theorem eGn_eta (t : Gn) : eGn t = [.sc (.string t.var), .sc (.string t.table)] := rfl
/-- A key. -/
structure Kd where
  table : ByteArray
  label : ByteArray
def eKd (a : Kd) : List IV := [.sc (.string a.table), .sc (.string a.label)]
theorem eKd_eta (t : Kd) : eKd t = [.sc (.string t.table), .sc (.string t.label)] := rfl
instance : Wid eKd 2 := ⟨fun _ => rfl⟩
def okKd (b : Nat) (t : Kd) : Prop := okL b (eKd t)
def zKd (t : Kd) : Nat := mL (eKd t)
/-- What a session holds. -/
structure Ses where
  schema : List Decl
  db : List TData
  query : Tm
  other : Tm
def eSes (a : Ses) : List IV := slI eDecl a.schema :: slI eTData a.db :: (eTm a.query ++ eTm a.other)
theorem eSes_eta (a : Ses) : eSes a = [slI eDecl a.schema, slI eTData a.db, .sc (.int .i64 a.query.kind), .sc (.string a.query.name), .sc (.int .i64 a.query.n), .sc (.int .i64 a.query.ty.kind), slI eS a.query.ty.labels, slI eTy a.query.ty.args, slI eS a.query.labels, slI eTm a.query.args, .sc (.int .i64 a.other.kind), .sc (.string a.other.name), .sc (.int .i64 a.other.n), .sc (.int .i64 a.other.ty.kind), slI eS a.other.ty.labels, slI eTy a.other.ty.args, slI eS a.other.labels, slI eTm a.other.args] := by rw [eSes, eTm_eta, eTm_eta]; rfl
instance : Wid eSes 18 := ⟨fun t => by rw [eSes_eta]; rfl⟩
def okSes (b : Nat) (t : Ses) : Prop := okL b (eSes t)
def zSes (t : Ses) : Nat := mL (eSes t)
end Go.VC
/- When data are equal: no statement of a program. -/
set_option linter.unusedVariables false
namespace Go.VC
open Go
noncomputable instance : DecidableEq Ty := fun a b => Classical.propDecidable _
noncomputable instance : DecidableEq Val := fun a b => Classical.propDecidable _
noncomputable instance : DecidableEq Tm := fun a b => Classical.propDecidable _
noncomputable instance : DecidableEq Pl := fun a b => Classical.propDecidable _
noncomputable instance : DecidableEq Mono := fun a b => Classical.propDecidable _
noncomputable instance : DecidableEq Ann := fun a b => Classical.propDecidable _
noncomputable instance : DecidableEq Decl := fun a b => Classical.propDecidable _
noncomputable instance : DecidableEq TData := fun a b => Classical.propDecidable _
noncomputable instance : DecidableEq Vw := fun a b => Classical.propDecidable _
noncomputable instance : DecidableEq Ses := fun a b => Classical.propDecidable _
theorem Ty.ext {t u : Ty} (h1 : t.kind = u.kind) (h2 : t.labels = u.labels) (h3 : t.args = u.args) : t = u := by
  cases t; cases u; simp_all [Ty.kind, Ty.labels, Ty.args]
theorem Val.ext {t u : Val} (h1 : t.kind = u.kind) (h0 : t.n = u.n) (h2 : t.labels = u.labels) (h3 : t.args = u.args) : t = u := by
  cases t; cases u; simp_all [Val.kind, Val.n, Val.labels, Val.args]
theorem Tm.ext {t u : Tm} (h1 : t.kind = u.kind) (h4 : t.name = u.name) (h0 : t.n = u.n) (h5 : t.ty = u.ty) (h2 : t.labels = u.labels) (h3 : t.args = u.args) : t = u := by
  cases t; cases u; simp_all [Tm.kind, Tm.name, Tm.n, Tm.ty, Tm.labels, Tm.args]
theorem Mono.ext {t u : Mono} (h1 : t.coef = u.coef) (h2 : t.vars = u.vars) : t = u := by cases t; cases u; simp_all
theorem Ann.ext {t u : Ann} (h1 : t.value = u.value) (h2 : t.poly = u.poly) : t = u := by cases t; cases u; simp_all
theorem Decl.ext {t u : Decl} (h1 : t.name = u.name) (h2 : t.row = u.row) : t = u := by cases t; cases u; simp_all
theorem TData.ext {t u : TData} (h1 : t.name = u.name) (h2 : t.rows = u.rows) : t = u := by cases t; cases u; simp_all
theorem Vw.ext {t u : Vw} (h1 : t.table = u.table) (h2 : t.cond = u.cond) (h3 : t.cols = u.cols) (h4 : t.key = u.key) : t = u := by cases t; cases u; simp_all
theorem Ses.ext {t u : Ses} (h1 : t.schema = u.schema) (h2 : t.db = u.db) (h3 : t.query = u.query) (h4 : t.other = u.other) : t = u := by cases t; cases u; simp_all
end Go.VC
/- Heads, comprehensions, queries, as trees: no statement of a program. -/
set_option linter.unusedSimpArgs false
set_option linter.unusedVariables false
namespace Go.VC
open Go
mutual
/-- A head. -/
inductive Hd where
  | mk (kind : Int) (term : Tm) (labels : List ByteArray) (parts : List Hd) (query : List Cmp)
/-- A comprehension. -/
inductive Cmp where
  | mk (gens : List Gn) (wh : Tm) (head : Hd)
end
def Hd.kind : Hd → Int | .mk k _ _ _ _ => k
def Hd.term : Hd → Tm | .mk _ t _ _ _ => t
def Hd.labels : Hd → List ByteArray | .mk _ _ l _ _ => l
def Hd.parts : Hd → List Hd | .mk _ _ _ p _ => p
def Hd.query : Hd → List Cmp | .mk _ _ _ _ q => q
def Cmp.gens : Cmp → List Gn | .mk g _ _ => g
def Cmp.wh : Cmp → Tm | .mk _ w _ => w
def Cmp.head : Cmp → Hd | .mk _ _ h => h
instance : Inhabited Hd := ⟨.mk 0 default [] [] []⟩
instance : Inhabited Cmp := ⟨.mk [] default default⟩
mutual
def eHd : Hd → List IV
  | .mk k t l p q => [.sc (.int .i64 k)] ++ (eTm t ++ [slI eS l, .sl p.length (eHdL p), .sl q.length (eCmpL q)])
def eHdL : List Hd → List IV
  | [] => []
  | t :: r => eHd t ++ eHdL r
def eCmp : Cmp → List IV
  | .mk g w h => [slI eGn g] ++ (eTm w ++ eHd h)
def eCmpL : List Cmp → List IV
  | [] => []
  | t :: r => eCmp t ++ eCmpL r
end
theorem eHdL_eq : ∀ (l : List Hd), eHdL l = l.flatMap eHd
  | [] => by rw [eHdL]; rfl
  | t :: r => by rw [eHdL, eHdL_eq r, List.flatMap_cons]
theorem eCmpL_eq : ∀ (l : List Cmp), eCmpL l = l.flatMap eCmp
  | [] => by rw [eCmpL]; rfl
  | t :: r => by rw [eCmpL, eCmpL_eq r, List.flatMap_cons]
theorem eHd_app (t : Hd) : eHd t = [.sc (.int .i64 t.kind)] ++ (eTm t.term ++ ([slI eS t.labels, slI eHd t.parts, slI eCmp t.query])) := by
  cases t with
  | mk k t l p q => rw [eHd, eHdL_eq, eCmpL_eq]; rfl
theorem eCmp_app (t : Cmp) : eCmp t = [slI eGn t.gens] ++ (eTm t.wh ++ (eHd t.head)) := by
  cases t with
  | mk g w h => rw [eCmp]; rfl
theorem eHd_eta (t : Hd) : eHd t = [.sc (.int .i64 t.kind), .sc (.int .i64 t.term.kind), .sc (.string t.term.name), .sc (.int .i64 t.term.n), .sc (.int .i64 t.term.ty.kind), slI eS t.term.ty.labels, slI eTy t.term.ty.args, slI eS t.term.labels, slI eTm t.term.args, slI eS t.labels, slI eHd t.parts, slI eCmp t.query] := by rw [eHd_app, eTm_eta]; rfl
theorem eCmp_eta (t : Cmp) : eCmp t = [slI eGn t.gens, .sc (.int .i64 t.wh.kind), .sc (.string t.wh.name), .sc (.int .i64 t.wh.n), .sc (.int .i64 t.wh.ty.kind), slI eS t.wh.ty.labels, slI eTy t.wh.ty.args, slI eS t.wh.labels, slI eTm t.wh.args, .sc (.int .i64 t.head.kind), .sc (.int .i64 t.head.term.kind), .sc (.string t.head.term.name), .sc (.int .i64 t.head.term.n), .sc (.int .i64 t.head.term.ty.kind), slI eS t.head.term.ty.labels, slI eTy t.head.term.ty.args, slI eS t.head.term.labels, slI eTm t.head.term.args, slI eS t.head.labels, slI eHd t.head.parts, slI eCmp t.head.query] := by rw [eCmp_app, eTm_eta, eHd_eta]; rfl
instance : Wid eHd 12 := ⟨fun t => by rw [eHd_eta]; rfl⟩
instance : Wid eCmp 21 := ⟨fun t => by rw [eCmp_eta]; rfl⟩
def okHd (b : Nat) (t : Hd) : Prop := okL b (eHd t)
def zHd (t : Hd) : Nat := mL (eHd t)
def okCmp (b : Nat) (t : Cmp) : Prop := okL b (eCmp t)
def zCmp (t : Cmp) : Nat := mL (eCmp t)
/-- A query: its comprehensions. -/
def eQr (l : List Cmp) : List IV := [slI eCmp l]
instance : Wid eQr 1 := ⟨fun _ => rfl⟩
def okQr (b : Nat) (t : List Cmp) : Prop := okL b (eQr t)
def zQr (t : List Cmp) : Nat := mL (eQr t)
theorem Hd.ext {t u : Hd} (h1 : t.kind = u.kind) (h2 : t.term = u.term) (h3 : t.labels = u.labels) (h4 : t.parts = u.parts) (h5 : t.query = u.query) : t = u := by
  cases t; cases u; simp_all [Hd.kind, Hd.term, Hd.labels, Hd.parts, Hd.query]
theorem Cmp.ext {t u : Cmp} (h1 : t.gens = u.gens) (h2 : t.wh = u.wh) (h3 : t.head = u.head) : t = u := by
  cases t; cases u; simp_all [Cmp.gens, Cmp.wh, Cmp.head]
noncomputable instance : DecidableEq Hd := fun a b => Classical.propDecidable _
noncomputable instance : DecidableEq Cmp := fun a b => Classical.propDecidable _
end Go.VC
/- Flat data, as trees: no statement of a program. -/
set_option linter.unusedSimpArgs false
set_option linter.unusedVariables false
namespace Go.VC
open Go
/-- A flat comprehension. -/
structure FC where
  outer : Int
  outerGens : Int
  tag : Int
  gens : List Gn
  wh : Tm
  cols : List Tm
def eFC (a : FC) : List IV := [.sc (.int .i64 a.outer), .sc (.int .i64 a.outerGens), .sc (.int .i64 a.tag), slI eGn a.gens] ++ (eTm a.wh ++ ([slI eTm a.cols]))
theorem eFC_eta (a : FC) : eFC a = [.sc (.int .i64 a.outer), .sc (.int .i64 a.outerGens), .sc (.int .i64 a.tag), slI eGn a.gens, .sc (.int .i64 a.wh.kind), .sc (.string a.wh.name), .sc (.int .i64 a.wh.n), .sc (.int .i64 a.wh.ty.kind), slI eS a.wh.ty.labels, slI eTy a.wh.ty.args, slI eS a.wh.labels, slI eTm a.wh.args, slI eTm a.cols] := by rw [eFC, eTm_eta]; rfl
instance : Wid eFC 13 := ⟨fun t => by rw [eFC_eta]; rfl⟩
def okFC (b : Nat) (t : FC) : Prop := okL b (eFC t)
def zFC (t : FC) : Nat := mL (eFC t)
theorem FC.ext {t u : FC} (h0 : t.outer = u.outer) (h1 : t.outerGens = u.outerGens) (h2 : t.tag = u.tag) (h3 : t.gens = u.gens) (h4 : t.wh = u.wh) (h5 : t.cols = u.cols) : t = u := by cases t; cases u; simp_all
noncomputable instance : DecidableEq FC := fun a b => Classical.propDecidable _
/-- A flat query. -/
structure FQ where
  path : List ByteArray
  comps : List FC
def eFQ (a : FQ) : List IV := [slI eS a.path, slI eFC a.comps]
theorem eFQ_eta (a : FQ) : eFQ a = [slI eS a.path, slI eFC a.comps] := by rfl
instance : Wid eFQ 2 := ⟨fun t => by rw [eFQ_eta]; rfl⟩
def okFQ (b : Nat) (t : FQ) : Prop := okL b (eFQ t)
def zFQ (t : FQ) : Nat := mL (eFQ t)
theorem FQ.ext {t u : FQ} (h0 : t.path = u.path) (h1 : t.comps = u.comps) : t = u := by cases t; cases u; simp_all
noncomputable instance : DecidableEq FQ := fun a b => Classical.propDecidable _
end Go.VC
/- Marks: every scalar that a row leads to, numbered in order: no statement of a program. -/
set_option linter.unusedSimpArgs false
set_option linter.unusedVariables false
namespace Go.VC
open Go
section
variable (mT : Int → ByteArray)
mutual
def cnI : IV → Nat
  | .sc (.int _ _) => 1
  | .sc (.string _) => 1
  | .sl _ cs => cnL cs
  | _ => 0
def cnL : List IV → Nat
  | [] => 0
  | x :: r => cnI x + cnL r
end
mutual
def mkI (k : Int) : IV → IV
  | .sc (.int i _) => .sc (.int i k)
  | .sc (.string _) => .sc (.string (mT k))
  | .sl n cs => .sl n (mkL k cs)
  | x => x
def mkL (k : Int) : List IV → List IV
  | [] => []
  | x :: r => mkI k x :: mkL (k + cnI x) r
end
theorem cnL_append : ∀ {a b : List IV}, cnL (a ++ b) = cnL a + cnL b
  | [], b => by simp [cnL]
  | x :: r, b => by simp only [List.cons_append, cnL, cnL_append (a := r), Nat.add_assoc]
theorem mkL_append : ∀ {k : Int} {a b : List IV}, mkL mT k (a ++ b) = mkL mT k a ++ mkL mT (k + cnL a) b
  | k, [], b => by simp [mkL, cnL]
  | k, x :: r, b => by
    simp only [List.cons_append, mkL, cnL, mkL_append (a := r)]
    rw [show k + ((cnI x + cnL r : Nat) : Int) = k + (cnI x : Int) + (cnL r : Int) by omega]
theorem mkL_len : ∀ {k : Int} {a : List IV}, (mkL mT k a).length = a.length
  | _, [] => rfl
  | k, x :: r => by simp only [mkL, List.length_cons, mkL_len (a := r)]
variable {α : Type} {E : α → List IV} {z : Nat}
/-- The row at element i's turn. -/
def mkA (E : α → List IV) (k : Int) (xs : List α) (i : Nat) : List IV := mkL mT k ((xs.take i).flatMap E)
/-- How many marks there are before element i. -/
def cnT (E : α → List IV) (xs : List α) (i : Nat) : Nat := cnL ((xs.take i).flatMap E)
theorem mkA_len [Wid E z] {k : Int} {xs : List α} {i : Nat} (h : i ≤ xs.length) : (mkA mT E k xs i).length = i * z := by
  rw [mkA, mkL_len, flat_len', List.length_take, Nat.min_eq_left h]
theorem mkA_zero {k : Int} {xs : List α} : mkA mT E k xs 0 = [] := by simp [mkA, mkL]
theorem cnT_zero {xs : List α} : cnT E xs 0 = 0 := by simp [cnT, cnL]
theorem cnT_succ {xs : List α} {i : Nat} (h : i < xs.length) : cnT E xs (i + 1) = cnT E xs i + cnL (E xs[i]) := by
  rw [cnT, take_at h, List.flatMap_append, cnL_append, flat_one, cnT]
theorem mkA_succ {k : Int} {xs : List α} {i : Nat} (h : i < xs.length) : mkA mT E k xs (i + 1) = mkA mT E k xs i ++ mkL mT (k + cnT E xs i) (E xs[i]) := by
  rw [mkA, take_at h, List.flatMap_append, mkL_append, flat_one, mkA, cnT]
theorem mkA_all {k : Int} {xs : List α} {i : Nat} (h : xs.length ≤ i) : mkA mT E k xs i = mkL mT k (xs.flatMap E) := by rw [mkA, List.take_of_length_le h]
theorem cnT_all {xs : List α} {i : Nat} (h : xs.length ≤ i) : cnT E xs i = cnL (xs.flatMap E) := by rw [cnT, List.take_of_length_le h]
theorem cnT_le {xs : List α} {i : Nat} : cnT E xs i ≤ cnL (xs.flatMap E) := by
  have : xs.flatMap E = (xs.take i).flatMap E ++ (xs.drop i).flatMap E := by rw [← List.flatMap_append, List.take_append_drop]
  rw [this, cnL_append]; unfold cnT; omega
theorem drop_flat {xs : List α} {i : Nat} (h : i < xs.length) : (xs.drop i).flatMap E = E xs[i] ++ (xs.drop (i + 1)).flatMap E := by rw [drop_at h, List.flatMap_cons]
theorem drop_all {xs : List α} {i : Nat} (h : xs.length ≤ i) : (xs.drop i).flatMap E = [] := by rw [List.drop_of_length_le h]; rfl
/-- What is left to mark, read from element i on. -/
theorem mk_drop [w : Wid E z] {k : Int} {xs : List α} {i : Nat} (h : i < xs.length) : (mkL mT k (xs.flatMap E)).drop (i * z) = mkL mT (k + cnT E xs i) (E xs[i]) ++ mkL mT (k + cnT E xs (i + 1)) ((xs.drop (i + 1)).flatMap E) := by
  have e : xs.flatMap E = (xs.take i).flatMap E ++ (E xs[i] ++ (xs.drop (i + 1)).flatMap E) := by
    rw [← drop_flat h, ← List.flatMap_append, List.take_append_drop]
  have hl : (mkL mT k ((xs.take i).flatMap E)).length = i * z := mkA_len mT (Nat.le_of_lt h)
  conv => lhs; rw [e, mkL_append]
  rw [List.drop_left' hl, mkL_append, cnT_succ h, cnT]
  congr 2
  omega
theorem pt_mk [w : Wid E z] {k : Int} {xs : List α} {i : Nat} (h : i < xs.length) : IV.pt ((mkL mT k (xs.flatMap E)).drop (i * z)) = .pt (mkL mT (k + cnT E xs i) (E xs[i]) ++ mkL mT (k + cnT E xs (i + 1)) ((xs.drop (i + 1)).flatMap E)) := by rw [mk_drop mT h]
theorem pt_mk1 [w : Wid E 1] {k : Int} {xs : List α} {i : Nat} (h : i < xs.length) : IV.pt ((mkL mT k (xs.flatMap E)).drop i) = .pt (mkL mT (k + cnT E xs i) (E xs[i]) ++ mkL mT (k + cnT E xs (i + 1)) ((xs.drop (i + 1)).flatMap E)) := by
  have := pt_mk mT (E := E) (z := 1) (k := k) h
  rwa [Nat.mul_one] at this
end
section
variable (mT : Int → ByteArray)
theorem mkL_i {k a : Int} {i : IntKind} {r : List IV} : mkL mT k (.sc (.int i a) :: r) = .sc (.int i k) :: mkL mT (k + 1) r := by rw [mkL, mkI, cnI]; rfl
theorem mkL_s {k : Int} {s : ByteArray} {r : List IV} : mkL mT k (.sc (.string s) :: r) = .sc (.string (mT k)) :: mkL mT (k + 1) r := by rw [mkL, mkI, cnI]; rfl
theorem mkL_l {k : Int} {n : Nat} {cs r : List IV} : mkL mT k (.sl n cs :: r) = .sl n (mkL mT k cs) :: mkL mT (k + (cnL cs : Int)) r := by rw [mkL, mkI, cnI]
theorem mkL_n {k : Int} : mkL mT k [] = [] := by rw [mkL]
end
theorem cnL_i {a : Int} {i : IntKind} {r : List IV} : cnL (.sc (.int i a) :: r) = cnL r + 1 := by rw [cnL, cnI]; omega
theorem cnL_s {s : ByteArray} {r : List IV} : cnL (.sc (.string s) :: r) = cnL r + 1 := by rw [cnL, cnI]; omega
theorem cnL_l {n : Nat} {cs r : List IV} : cnL (.sl n cs :: r) = cnL cs + cnL r := by rw [cnL, cnI]
theorem cnL_n : cnL [] = 0 := by rw [cnL]
/-- Each element bears at least one mark. -/
class Cn1 {α : Type} (E : α → List IV) : Prop where
  one : ∀ a, 1 ≤ cnL (E a)
instance : Cn1 eS := ⟨fun _ => by simp only [eS, cnL_s, cnL_n]; omega⟩
instance : Cn1 eI := ⟨fun _ => by simp only [eI, cnL_i, cnL_n]; omega⟩
instance : Cn1 eTy := ⟨fun _ => by rw [eTy_eta]; simp only [cnL_i]; omega⟩
instance : Cn1 eVal := ⟨fun _ => by rw [eVal_eta]; simp only [cnL_i]; omega⟩
instance : Cn1 eTm := ⟨fun _ => by rw [eTm_eta]; simp only [cnL_i]; omega⟩
instance : Cn1 ePl := ⟨fun _ => by rw [ePl_eta]; simp only [cnL_i]; omega⟩
instance : Cn1 eMono := ⟨fun _ => by rw [eMono_eta]; simp only [cnL_i]; omega⟩
instance : Cn1 eAnn := ⟨fun _ => by rw [eAnn_eta]; simp only [cnL_i]; omega⟩
instance : Cn1 eDecl := ⟨fun _ => by rw [eDecl_eta]; simp only [cnL_s]; omega⟩
instance : Cn1 eTData := ⟨fun _ => by rw [eTData_eta]; simp only [cnL_s]; omega⟩
instance : Cn1 eGn := ⟨fun _ => by rw [eGn_eta]; simp only [cnL_s]; omega⟩
instance : Cn1 eKd := ⟨fun _ => by rw [eKd_eta]; simp only [cnL_s]; omega⟩
instance : Cn1 eHd := ⟨fun _ => by rw [eHd_eta]; simp only [cnL_i]; omega⟩
instance : Cn1 eCmp := ⟨fun _ => by rw [eCmp_eta]; simp only [slI, cnL_l, cnL_i]; omega⟩
instance : Cn1 eFC := ⟨fun _ => by rw [eFC_eta]; simp only [cnL_i]; omega⟩
theorem cnL_len {α : Type} {E : α → List IV} [c : Cn1 E] : ∀ {xs : List α}, xs.length ≤ cnL (xs.flatMap E)
  | [] => by simp
  | x :: r => by
    have h1 := c.one x
    have h2 := cnL_len (E := E) (xs := r)
    rw [List.flatMap_cons, cnL_append, List.length_cons]; omega
/-! The cells of a row, from an element on. -/
theorem ivl {A B : List IV} : (A ++ B).length = A.length + B.length := List.length_append
theorem iv0 {a v : IV} {l : List IV} : (a :: l).set 0 v = v :: l := rfl
theorem ivs {a v : IV} {l : List IV} {n : Nat} : (a :: l).set (n + 1) v = a :: l.set n v := rfl
theorem mid_set {A : List IV} {m : Nat} (c : Nat) (h : A.length = m) (D : List IV) (v : IV) : (A ++ D).set (m + c) v = A ++ D.set c v := by
  subst h
  rw [List.set_append_right _ _ (by omega), Nat.add_sub_cancel_left]
theorem mid_set0 {A : List IV} {m : Nat} (h : A.length = m) (D : List IV) (v : IV) : (A ++ D).set m v = A ++ D.set 0 v := mid_set 0 h D v
theorem mid_get {A : List IV} {m : Nat} (c : Nat) (h : A.length = m) (D : List IV) : (A ++ D)[m + c]? = D[c]? := by
  subst h
  rw [List.getElem?_append_right (by omega), Nat.add_sub_cancel_left]
end Go.VC
/- Functions on texts and numbers: what each returns. -/
namespace Go.VC.T
open Go Go.VC Go.Proofs Go.VC.F
set_option linter.unusedSimpArgs false
set_option linter.unusedVariables false
set_option linter.defProp false
set_option maxRecDepth 100000
def fc95A1 := (ai (ai (ai (ai sz3 ag3) (ai zv3 un3)) (ai (ai sz4 ag4) (ai zv4 (ai un4 sz9)))) (ai (ai (ai ag9 zv9) (ai un9 (ai sz55 ag55))) (ai (ai zv55 sb55) (ai un55 (ai el55 ap55)))))
theorem eqStringS_ok (xs ys : List ByteArray) (hx : xs.length ≤ 2^48) : FnS Try.prog 95 [] [slT eS xs, slT eS ys] [] (bT (decide (xs = ys))) := by
  refine FnS.go [0, 1, 4, 5, 10, 14, 25] [] Try.func95 rfl (fun kt kz => ?_)
  have fcx := fc95A1
  simp only [Try.f95]
  refine Run (cast_succ) ?_; with_reducible repeat' (first | exact True.intro | refine Lf.mk ?_ ?_ | intro hb)
  · have : xs ≠ ys := fun h => hb (by rw [h])
    simp [this]
  · have hl : xs.length = ys.length := by omega
    refine Trn (α := Nat) [4, 5, 11, 12, 13, 14, 15, 16, 17, 18, 19, 20, 21, 22, 23, 24, 25] (fun i => [(5, iT i)]) (fun i => []) (fun i => i ≤ xs.length ∧ xs.take i = ys.take i) (fun i => xs.length - i) (0) (⟨Nat.zero_le _, rfl⟩) (cast_succ) ?_; intro lx hI; obtain i := lx; (try simp only [List.nil_append, List.cons_append] at hI ⊢)
    refine Run (@eS.eq_1) ?_; with_reducible repeat' (first | exact True.intro | refine Lf.mk ?_ ?_ | intro hb)
    · have : xs ≠ ys := fun h => hb (by subst h; rfl)
      simp [this]
    · exact Nxt (cast_succ) (lx + 1) (⟨by omega, take_eq_at hI.2 (by omega) (by omega) hb⟩) (by first | omega | (simp; omega))
    · have : xs = ys := by
        have h := hI.2
        rw [List.take_of_length_le (by omega), List.take_of_length_le (by omega)] at h; exact h
      simp [this]
def fc89A1 := (ai (ai (ai (ai sz3 ag3) (ai zv3 un3)) (ai (ai sz4 ag4) (ai zv4 (ai un4 sz9)))) (ai (ai (ai ag9 zv9) (ai un9 (ai sz55 ag55))) (ai (ai zv55 sb55) (ai un55 (ai el55 ap55)))))
theorem toStringS_ow (xs : List ByteArray) (hx : xs.length ≤ 2^40) : FnS Try.prog 89 [] [slT eS xs] [(14, .vec 9 1 xs.length (xs.flatMap eS) true)] (.c (.os 14 xs.length)) := by
  refine FnS.go [0, 2, 3, 4, 11] [] Try.func89 rfl (fun kt kz => ?_)
  have fcx := fc89A1
  simp only [Try.f89]
  refine Run (cast_succ) ?_; with_reducible repeat' (first | exact True.intro | refine Lf.mk ?_ ?_ | intro hb)
  refine Trn (α := Nat) [4, 8, 9, 10, 11, 12, 13, 14, 15, 16, 17, 18, 19, 20] (fun i => [(4, iT i), (3, .c (.os 14 xs.length))]) (fun i => [(14, .vec 9 1 xs.length (filled eS [.sc (.string ⟨#[]⟩)] xs i) true)]) (fun i => i ≤ xs.length) (fun i => xs.length - i) (0) (Nat.zero_le _) (cast_succ) ?_; intro lx hI; obtain i := lx; (try simp only [List.nil_append, List.cons_append] at hI ⊢)
  refine Run (@eS.eq_1) ?_; with_reducible repeat' (first | exact True.intro | refine Lf.mk ?_ ?_ | intro hb)
  · exact Nxt (cast_succ) (lx + 1) (by omega) (by first | omega | (simp; omega))

theorem toStringS_o (xs : List ByteArray) (hx : okLs (2^20) okS xs) (q : Nat) : FnS Try.prog 89 [] [slT eS xs] [(q, .row xs.length (xs.flatMap eS))] (.c (.os q xs.length)) := by
  obtain ⟨p, hp⟩ := pm1 14 q
  refine ((toStringS_ow xs (by have := hx.1; omega)).rows.pm p).as ?_ ?_ <;> simp [rowS, rowO, renS, Ob.ren, TV.ren, Cell.ren, hp]
end Go.VC.T
/- Data: how they are measured, copied and compared. -/
namespace Go.VC.T
open Go Go.VC Go.Proofs Go.VC.F
set_option linter.unusedSimpArgs false
set_option linter.unusedVariables false
set_option linter.defProp false
set_option maxRecDepth 100000
def fc87A2 := (ai (ai (ai (ai sz3 ag3) (ai zv3 un3)) (ai (ai sz4 ag4) (ai zv4 (ai un4 sz9)))) (ai (ai (ai ag9 zv9) (ai un9 (ai sz55 ag55))) (ai (ai zv55 sb55) (ai un55 (ai el55 ap55)))))
theorem szStringS_ok (xs : List ByteArray) (hx : okLs (2^48) okS xs) (left : Int) (hl : 0 ≤ left ∧ left ≤ 2^20) : FnS Try.prog 87 [] [slT eS xs, iT left] [] (iT (szR (zSL xs) left)) := by
  refine FnS.go [0, 1, 4, 5, 11, 15, 26] [] Try.func87 rfl (fun kt kz => ?_)
  have fcx := fc87A2
  simp only [Try.f87]
  have hx1 := hx.1
  refine Run (cast_succ) ?_; with_reducible repeat' (first | exact True.intro | refine Lf.mk ?_ ?_ | intro hb)
  · simp only [zSL, szR_nil hb zL_len]
  · rw [szR_sub hb]
    have hb2 := szR_sub hb ▸ hb
    refine Trn (α := Nat) [1, 4, 5, 12, 13, 14, 15, 16, 17, 18, 19, 20, 21, 22, 23, 24, 25, 26] (fun i => [(5, iT i), (1, iT (szR (zT zS xs i) left))]) (fun i => []) (fun i => i ≤ xs.length ∧ 0 ≤ szR (zT zS xs i) left) (fun i => xs.length - i) (0) (⟨Nat.zero_le _, by rw [zT_zero]; exact hb2⟩) (@zT_zero) ?_; intro lx hI; obtain i := lx; (try simp only [List.nil_append, List.cons_append] at hI ⊢)
    have hz := szR_le (n := zT zS xs lx) hl.1
    by_cases hlt : lx < xs.length
    · have hx2 : zS xs[lx] ≤ 2^48 := okLs_at hx hlt
      have hx3 : xs[lx].size = zS xs[lx] := rfl
      refine Run ((ai @eS.eq_1 @hx3)) ?_; with_reducible repeat' (first | exact True.intro | refine Lf.mk ?_ ?_ | intro hb)
      · rw [szR_neg (n := zT zS xs (lx + 1)) (by rw [zT_succ hlt, ← szR_add]; unfold szR at *; split <;> omega) zT_le]
      · have e : szR (zT zS xs lx) left - (zS xs[lx] : Int) = szR (zT zS xs (lx + 1)) left := by rw [szR_sub hb, szR_add, ← zT_succ hlt]
        rw [e] at hb
        exact Nxt (@e) (lx + 1) (⟨by omega, hb⟩) (by first | omega | (simp; omega))
      · omega
    · refine Run (cast_succ) ?_; with_reducible repeat' (first | exact True.intro | refine Lf.mk ?_ ?_ | intro hb)
      · omega
      · rw [zT_all (by omega)]
theorem eqStringS_rf (xs : List ByteArray) (h : okLs (2^20) okS xs) : FnP Try.prog 95 [slT eS xs, slT eS xs] (bT true) := by
  have := eqStringS_ok xs xs (by have := h.1; omega)
  simpa using this

end Go.VC.T
/- Reading lists. -/
namespace Go.VC
open Go
theorem rdS {P : Program} {t e : TypeId} {m : Nat} {α : Type} {E : α → List IV} {ok : Nat → α → Prop} {z y : Nat} (ht : P.underlying t = some (.slice e)) (hz : P.cellsOf e = z) (hy : P.bytesOf e = y) (h1 : 1 ≤ y)
    (h : ∀ k, k < m → Rd P e k E (ok (2^48))) : Rd P t m (fun xs : List α => [slI E xs]) (okLs (2^48) ok) := by
  cases m with
  | zero => exact .zero
  | succ m =>
    refine (rd_slice ht hz hy (h m (by omega))).map id (fun _ _ => rfl) fun a h => ⟨?_, h.1⟩
    have h2 := h.2.2.2
    have h3 : a.length ≤ a.length * y := Nat.le_mul_of_pos_right _ (by omega)
    simp [reachBytes] at h2
    show a.length ≤ 2 ^ 48
    omega
theorem rdStr {P : Program} {t : TypeId} {m : Nat} (ht : P.underlying t = some .string) : Rd P t m eS (okS (2^48)) :=
  (rd_string ht m).map id (fun _ _ => rfl) fun a h => by simp [reachBytes] at h; show a.size ≤ 2 ^ 48; omega
theorem rdI {P : Program} {t : TypeId} {m : Nat} (ht : P.underlying t = some (.int .i64)) : Rd P t m (fun n : Int => [.sc (.int .i64 n)]) ok64 :=
  (rd_i64 ht m).map id (fun _ _ => rfl) fun _ h => h
end Go.VC
/- Comparing data: no statement of a program. -/
set_option linter.unusedVariables false
namespace Go.VC
open Go
def numC (a b : Int) : Int := (if b < a then 1 else 0) - (if a < b then 1 else 0)
theorem numC_eq {a b : Int} : numC a b = 0 ↔ a = b := by unfold numC; split <;> split <;> omega
theorem cmpS_bits {x y : ByteArray} (h : x ≠ y) : (if sLt y x = true then (1 : Int) else 0) - (if sLt x y = true then 1 else 0) = cmpS x y := by
  unfold cmpS
  cases h1 : sLt x y with
  | true => rw [sLt_asymm h1]; simp
  | false => rw [sLt_tri h1 h]; simp [h]
theorem cmpL_eq : ∀ {x y : List ByteArray}, cmpL x y = 0 ↔ x = y
  | [], [] => by simp [cmpL]
  | [], _ :: _ => by simp [cmpL]
  | _ :: _, [] => by simp [cmpL]
  | a :: x, b :: y => by
    rw [cmpL]
    by_cases h : a = b
    · simp [h, cmpL_eq (x := x) (y := y)]
    · simp [h, cmpS_eq]
/-- The first that is not zero. -/
def orC : List Int → Int
  | [] => 0
  | x :: r => if x = 0 then orC r else x
mutual
def cmpV : Val → Val → Int
  | .mk k n l a, w => orC [numC k w.kind, numC n w.n, numC a.length w.args.length, cmpL l w.labels, cmpVL a w.args]
def cmpVL : List Val → List Val → Int
  | [], _ => 0
  | x :: r, ys => match ys with
    | [] => 0
    | y :: s => if cmpV x y = 0 then cmpVL r s else cmpV x y
end
theorem cmpV_eta (v w : Val) : cmpV v w = orC [numC v.kind w.kind, numC v.n w.n, numC v.args.length w.args.length, cmpL v.labels w.labels, cmpVL v.args w.args] := by
  cases v with
  | mk k n l a => rw [cmpV]; rfl
mutual
theorem cmpV_eq : ∀ {v w : Val}, cmpV v w = 0 ↔ v = w
  | .mk k n l a, w => by
    rw [cmpV_eta]
    simp only [orC]
    constructor
    · intro h
      split at h
      · rename_i h1
        split at h
        · rename_i h2
          split at h
          · rename_i h3
            split at h
            · rename_i h4
              split at h
              · rename_i h5
                have h3' : a.length = w.args.length := by have := numC_eq.1 h3; exact Int.ofNat.inj this
                exact Val.ext (numC_eq.1 h1) (numC_eq.1 h2) (cmpL_eq.1 h4) ((cmpVL_eq (xs := a) h3').1 h5)
              · contradiction
            · contradiction
          · contradiction
        · contradiction
      · contradiction
    · rintro rfl
      have h5 := (cmpVL_eq (xs := a) (ys := a) rfl).2 rfl
      simp [numC_eq.2 rfl, cmpL_eq.2 rfl, Val.kind, Val.n, Val.args, Val.labels, h5]
theorem cmpVL_eq : ∀ {xs ys : List Val}, xs.length = ys.length → (cmpVL xs ys = 0 ↔ xs = ys)
  | [], ys, h => by
    cases ys with
    | nil => simp [cmpVL]
    | cons => simp at h
  | x :: r, ys, h => by
    cases ys with
    | nil => simp at h
    | cons y s =>
      have h1 := cmpV_eq (v := x) (w := y)
      have h2 := cmpVL_eq (xs := r) (ys := s) (by simpa using h)
      rw [cmpVL]
      by_cases e : cmpV x y = 0
      · rw [if_pos e, h2, h1.1 e]; simp
      · have : x ≠ y := fun q => e (h1.2 q)
        simp [e, this]
end
end Go.VC
/- Comparisons: what each returns. -/
namespace Go.VC.T
open Go Go.VC Go.Proofs Go.VC.F
set_option linter.unusedSimpArgs false
set_option linter.unusedVariables false
set_option linter.defProp false
set_option maxRecDepth 100000
set_option maxHeartbeats 2000000
def fc120A10 := (ai (ai (ai sz4 ag4) (ai zv4 un4)) (ai (ai sz9 ag9) (ai zv9 un9)))
theorem isNaNS_ok (a : ByteArray) : FnS Try.prog 120 [] [sT a] [] (bT false) := by
  refine FnS.go [0, 2] [] Try.func120 rfl (fun kt kz => ?_)
  have fcx := fc120A10
  simp only [Try.f120]
  refine Run (cast_succ) ?_; with_reducible repeat' (first | exact True.intro | refine Lf.mk ?_ ?_ | intro hb)
def fc92A10 := (ai (ai (ai sz3 (ai ag3 zv3)) (ai un3 (ai sz4 ag4))) (ai (ai zv4 (ai un4 sz9)) (ai (ai ag9 zv9) (ai un9 okf120))))
theorem cmpCompareS_ok (a b : ByteArray) : FnS Try.prog 92 [] [sT a, sT b] [] (iT (cmpS a b)) := by
  refine FnS.go [0, 1, 4, 5, 6, 11, 12, 13, 16, 19] [] Try.func92 rfl (fun kt kz => ?_)
  have fcx := fc92A10
  simp only [Try.f92]
  refine Run (cast_succ) ?_; with_reducible repeat' (first | exact True.intro | refine Lf.mk ?_ ?_ | intro hb)
  refine Cal (cast_succ) (isNaNS_ok a) ?_
  refine Run (cast_succ) ?_; with_reducible repeat' (first | exact True.intro | refine Lf.mk ?_ ?_ | intro hb)
  refine Cal (cast_succ) (isNaNS_ok b) ?_
  refine Run (@sGt) ?_; with_reducible repeat' (first | exact True.intro | refine Lf.mk ?_ ?_ | intro hb)
  · rw [cmpS, if_pos hb]
  · rename_i h1
    rw [cmpS, if_neg (by simp [h1]), if_neg (by rintro rfl; rw [sLt_irrefl] at hb; cases hb)]
  · rename_i h1
    rw [cmpS, if_neg (by simp [h1]), if_pos (by
      apply Classical.byContradiction; intro hn
      rw [sLt_tri h1 hn] at hb; cases hb)]
def fc72A10 := (ai (ai (ai sz3 ag3) (ai zv3 un3)) (ai (ai sz4 ag4) (ai zv4 un4)))
theorem l1Bit_ok (b : Bool) : FnS Try.prog 72 [] [bT b] [] (iT (if b then 1 else 0)) := by
  refine FnS.go [0, 2, 3] [] Try.func72 rfl (fun kt kz => ?_)
  have fcx := fc72A10
  simp only [Try.f72]
  cases b
  · refine Run (cast_succ) ?_; with_reducible repeat' (first | exact True.intro | refine Lf.mk ?_ ?_ | intro hb)
  · refine Run (cast_succ) ?_; with_reducible repeat' (first | exact True.intro | refine Lf.mk ?_ ?_ | intro hb)
def fc88A10 := (ai (ai (ai sz3 ag3) (ai zv3 un3)) (ai (ai sz4 ag4) (ai zv4 (ai un4 okf72))))
theorem l5Number_ok (a b : Int) : FnS Try.prog 88 [] [iT a, iT b] [] (iT (numC a b)) := by
  refine FnS.go [0, 1, 4] [] Try.func88 rfl (fun kt kz => ?_)
  have fcx := fc88A10
  simp only [Try.f88]
  refine Run (cast_succ) ?_; with_reducible repeat' (first | exact True.intro | refine Lf.mk ?_ ?_ | intro hb)
  refine Cal (cast_succ) (l1Bit_ok (decide (b < a))) ?_
  refine Run (cast_succ) ?_; with_reducible repeat' (first | exact True.intro | refine Lf.mk ?_ ?_ | intro hb)
  refine Cal (cast_succ) (l1Bit_ok (decide (a < b))) ?_
  refine Run (cast_succ) ?_; with_reducible repeat' (first | exact True.intro | refine Lf.mk ?_ ?_ | intro hb)
  simp [numC]
def fc59A10 := (ai (ai (ai (ai sz3 ag3) (ai zv3 (ai un3 sz4))) (ai (ai ag4 zv4) (ai un4 (ai sz9 ag9)))) (ai (ai (ai zv9 un9) (ai sz55 (ai ag55 zv55))) (ai (ai sb55 un55) (ai el55 (ai ap55 okf92)))))
theorem slicesCompare_ok (xs ys : List ByteArray) (hx : xs.length ≤ 2^48) : FnS Try.prog 59 [] [slT eS xs, slT eS ys] [] (iT (cmpL xs ys)) := by
  refine FnS.go [0, 1, 4, 5, 6, 7, 8, 9, 10, 11, 12, 19, 28, 35] [] Try.func59 rfl (fun kt kz => ?_)
  have fcx := fc59A10
  simp only [Try.f59]
  refine Run (cast_succ) ?_; with_reducible repeat' (first | exact True.intro | refine Lf.mk ?_ ?_ | intro hb)
  refine Trn (α := Nat) [4, 5, 6, 7, 8, 11, 12, 13, 14, 15, 16, 17, 18, 19, 20, 21, 22, 23, 24, 25, 26, 27, 28, 29, 30] (fun i => [(11, iT i)]) (fun i => []) (fun i => i ≤ xs.length ∧ i ≤ ys.length ∧ cmpL (xs.drop i) (ys.drop i) = cmpL xs ys) (fun i => xs.length - i) (0) (⟨Nat.zero_le _, Nat.zero_le _, rfl⟩) (cast_succ) ?_; intro lx hI; obtain i := lx; (try simp only [List.nil_append, List.cons_append] at hI ⊢)
  have hc := hI.2.2
  by_cases hlt : lx < xs.length
  · by_cases hlt2 : lx < ys.length
    · rw [cmpL_drop (x := xs[lx]) (y := ys[lx]) (by simp [hlt]) (by simp [hlt2])] at hc
      refine Run (@eS.eq_1) ?_; with_reducible repeat' (first | exact True.intro | refine Lf.mk ?_ ?_ | intro hb)
      · omega
      · refine Cal (cast_succ) (cmpCompareS_ok xs[lx] ys[lx]) ?_
        refine Run (cast_succ) ?_; with_reducible repeat' (first | exact True.intro | refine Lf.mk ?_ ?_ | intro hb)
        · rw [← hc, if_neg fun e => hb (cmpS_eq.2 e)]
        · rw [if_pos (cmpS_eq.1 hb)] at hc
          exact Nxt (cast_succ) (lx + 1) (⟨by omega, by omega, hc⟩) (by first | omega | (simp; omega))
      · omega
    · rw [drop_at hlt, List.drop_of_length_le (l := ys) (by omega)] at hc
      refine Run (@eS.eq_1) ?_; with_reducible repeat' (first | exact True.intro | refine Lf.mk ?_ ?_ | intro hb)
      all_goals first | omega | (rw [← hc]; rfl) | skip
  · refine Run (@eS.eq_1) ?_; with_reducible repeat' (first | exact True.intro | refine Lf.mk ?_ ?_ | intro hb)
    all_goals first | omega | skip
    · rw [← hc, List.drop_of_length_le (by omega), drop_at (by omega)]; rfl
    · rw [← hc, List.drop_of_length_le (by omega), List.drop_of_length_le (by omega)]; rfl
def fc56A10 := (ai (ai (ai (ai sz3 ag3) (ai zv3 (ai un3 sz4))) (ai (ai ag4 zv4) (ai un4 (ai sz9 ag9)))) (ai (ai (ai zv9 un9) (ai sz55 (ai ag55 zv55))) (ai (ai sb55 (ai un55 el55)) (ai ap55 (ai okf72 okf88)))))
theorem l5Labels_ok (xs ys : List ByteArray) (hx : xs.length ≤ 2^48) (hy : ys.length ≤ 2^48) : FnS Try.prog 56 [] [slT eS xs, slT eS ys] [] (iT (cmpL xs ys)) := by
  refine FnS.go [0, 1, 4, 5, 15, 26] [] Try.func56 rfl (fun kt kz => ?_)
  have fcx := fc56A10
  simp only [Try.f56]
  refine Run (cast_succ) ?_; with_reducible repeat' (first | exact True.intro | refine Lf.mk ?_ ?_ | intro hb)
  refine Trn (α := Nat) [4, 5, 6, 7, 8, 9, 10, 11, 12, 13, 14, 15, 16, 17, 18, 19, 20, 21, 22, 23, 24, 25, 26, 27, 28, 29, 30, 31, 32, 33, 34, 35, 36, 37, 38, 39, 40, 41, 42, 43, 44, 45, 46, 47] (fun i => [(5, iT i)]) (fun i => []) (fun i => i ≤ xs.length ∧ i ≤ ys.length ∧ cmpL (xs.drop i) (ys.drop i) = cmpL xs ys) (fun i => xs.length - i) (0) (⟨Nat.zero_le _, Nat.zero_le _, rfl⟩) (cast_succ) ?_; intro lx hI; obtain i := lx; (try simp only [List.nil_append, List.cons_append] at hI ⊢)
  have hc := hI.2.2
  have hn : ¬ (lx < xs.length ∧ lx < ys.length) → numC xs.length ys.length = cmpL xs ys := by
    intro hq
    by_cases h1 : lx < xs.length
    · have h2 : ¬ lx < ys.length := fun h2 => hq ⟨h1, h2⟩
      rw [← hc, List.drop_of_length_le (l := ys) (by omega), drop_at h1, numC, if_pos (by omega), if_neg (by omega)]; rfl
    · rw [← hc, List.drop_of_length_le (by omega), numC, if_neg (by omega)]
      by_cases h2 : lx < ys.length
      · rw [drop_at h2, if_pos (by omega)]; rfl
      · rw [List.drop_of_length_le (by omega), if_neg (by omega)]; rfl
  by_cases hlt : lx < xs.length
  · by_cases hlt2 : lx < ys.length
    · rw [cmpL_drop (x := xs[lx]) (y := ys[lx]) (by simp [hlt]) (by simp [hlt2])] at hc
      refine Run ((ai (ai @eS.eq_1 @hlt) (ai @hlt2 @sGt))) ?_; with_reducible repeat' (first | exact True.intro | refine Lf.mk ?_ ?_ | intro hb)
      · refine Cal ((ai @eS.eq_1 @sGt)) (l1Bit_ok (sLt ys[lx] xs[lx])) ?_
        refine Run (cast_succ) ?_; with_reducible repeat' (first | exact True.intro | refine Lf.mk ?_ ?_ | intro hb)
        refine Cal ((ai @eS.eq_1 @sGt)) (l1Bit_ok (sLt xs[lx] ys[lx])) ?_
        refine Run (cast_succ) ?_; with_reducible repeat' (first | exact True.intro | refine Lf.mk ?_ ?_ | intro hb)
        all_goals rw [← hc, if_neg hb, ← cmpS_bits hb]
      · rw [if_pos hb] at hc
        exact Nxt (cast_succ) (lx + 1) (⟨by omega, by omega, hc⟩) (by first | omega | (simp; omega))
    · refine Run ((ai @eS.eq_1 (ai @hlt @hlt2))) ?_; with_reducible repeat' (first | exact True.intro | refine Lf.mk ?_ ?_ | intro hb)
      refine Cal (cast_succ) (l5Number_ok xs.length ys.length) ?_
      refine Run ((ai @hn (ai @hlt @hlt2))) ?_; with_reducible repeat' (first | exact True.intro | refine Lf.mk ?_ ?_ | intro hb)
  · refine Run ((ai @eS.eq_1 @hlt)) ?_; with_reducible repeat' (first | exact True.intro | refine Lf.mk ?_ ?_ | intro hb)
    refine Cal (cast_succ) (l5Number_ok xs.length ys.length) ?_
    refine Run ((ai @hn @hlt)) ?_; with_reducible repeat' (first | exact True.intro | refine Lf.mk ?_ ?_ | intro hb)

end Go.VC.T
/- Lists: whether some element has a property, and the first one that has it: no statement of a program. -/
set_option linter.unusedVariables false
namespace Go.VC
open Go
theorem any_at {α : Type} {p : α → Bool} {l : List α} {i : Nat} (h : i < l.length) (hp : p l[i] = true) : l.any p = true := List.any_eq_true.2 ⟨_, List.getElem_mem h, hp⟩
theorem any_take {α : Type} {p : α → Bool} {l : List α} {i : Nat} (h : i < l.length) (ht : (l.take i).any p = false) (hp : p l[i] = false) : (l.take (i + 1)).any p = false := by
  rw [take_at h, List.any_append, ht]; simp [hp]
theorem any_all {α : Type} {p : α → Bool} {l : List α} {i : Nat} (h : l.length ≤ i) (ht : (l.take i).any p = false) : l.any p = false := by
  rwa [List.take_of_length_le h] at ht
/-- The place of the first element with a property; -1 without. -/
def idxI {α : Type} (p : α → Bool) (l : List α) : Int := if l.any p then (l.findIdx p : Int) else -1
theorem idx_at {α : Type} {p : α → Bool} {l : List α} {i : Nat} (h : i < l.length) (ht : (l.take i).any p = false) (hp : p l[i] = true) : idxI p l = i := by
  rw [idxI, if_pos (any_at h hp)]
  congr 1
  rw [List.findIdx_eq h]
  refine ⟨hp, fun j hj => ?_⟩
  have := List.any_eq_false.1 ht l[j] (by
    rw [List.mem_iff_getElem]
    exact ⟨j, by simp; omega, by simp⟩)
  simpa using this
theorem idx_no {α : Type} {p : α → Bool} {l : List α} (h : l.any p = false) : idxI p l = -1 := by rw [idxI, h]; rfl
theorem idx_ge {α : Type} {p : α → Bool} {l : List α} : decide (0 ≤ idxI p l) = l.any p := by
  unfold idxI
  cases l.any p <;> simp
end Go.VC
/- Searching lists of texts; sorted lists. -/
namespace Go.VC
open Go
def SortedS (l : List ByteArray) : Prop := ∀ k, (h : k + 1 < l.length) → sLt l[k + 1] (l[k]'(by omega)) = false
noncomputable instance (l : List ByteArray) : Decidable (SortedS l) := Classical.propDecidable _
end Go.VC
namespace Go.VC.T
open Go Go.VC Go.Proofs Go.VC.F
set_option linter.unusedSimpArgs false
set_option linter.unusedVariables false
set_option linter.defProp false
set_option maxRecDepth 100000
set_option maxHeartbeats 2000000
def fc119A23 := (ai (ai (ai (ai sz3 ag3) (ai zv3 un3)) (ai (ai sz4 ag4) (ai zv4 (ai un4 sz9)))) (ai (ai (ai ag9 zv9) (ai un9 (ai sz55 ag55))) (ai (ai zv55 sb55) (ai un55 (ai el55 ap55)))))
theorem slIdxS_ok (xs : List ByteArray) (s : ByteArray) (hx : xs.length ≤ 2^48) : FnS Try.prog 119 [] [slT eS xs, sT s] [] (iT (idxI (fun x => decide (x = s)) xs)) := by
  refine FnS.go [0, 1, 4, 5, 7, 8, 9, 16] [] Try.func119 rfl (fun kt kz => ?_)
  have fcx := fc119A23
  simp only [Try.f119]
  refine Run (cast_succ) ?_; with_reducible repeat' (first | exact True.intro | refine Lf.mk ?_ ?_ | intro hb)
  refine Trn (α := Nat) [4, 5, 8, 9, 10, 11, 12, 13, 14, 15, 16, 17, 18] (fun i => [(8, iT i)]) (fun i => []) (fun i => i ≤ xs.length ∧ (xs.take i).any (fun x => decide (x = s)) = false) (fun i => xs.length - i) (0) (⟨Nat.zero_le _, rfl⟩) (cast_succ) ?_; intro lx hI; obtain i := lx; (try simp only [List.nil_append, List.cons_append] at hI ⊢)
  by_cases hlt : lx < xs.length
  · refine Run ((ai @hlt @eS.eq_1)) ?_; with_reducible repeat' (first | exact True.intro | refine Lf.mk ?_ ?_ | intro hb)
    · rw [idx_at (p := fun x => decide (x = s)) hlt hI.2 (by simpa using hb.symm)]
    · exact Nxt (cast_succ) (lx + 1) (⟨by omega, any_take hlt hI.2 (by simpa using fun h => hb h.symm)⟩) (by first | omega | (simp; omega))
  · have ha := any_all (by omega) hI.2
    refine Run (@hlt) ?_; with_reducible repeat' (first | exact True.intro | refine Lf.mk ?_ ?_ | intro hb)
    rw [idx_no ha]
def fc90A23 := (ai (ai (ai (ai sz3 ag3) (ai zv3 (ai un3 sz4))) (ai (ai ag4 zv4) (ai un4 (ai sz9 ag9)))) (ai (ai (ai zv9 un9) (ai sz55 (ai ag55 zv55))) (ai (ai sb55 un55) (ai el55 (ai ap55 okf119)))))
theorem slHasS_ok (xs : List ByteArray) (s : ByteArray) (hx : xs.length ≤ 2^48) : FnS Try.prog 90 [] [slT eS xs, sT s] [] (bT (xs.any (fun x => decide (x = s)))) := by
  refine FnS.go [0, 1, 4] [] Try.func90 rfl (fun kt kz => ?_)
  have fcx := fc90A23
  simp only [Try.f90]
  refine Run (cast_succ) ?_; with_reducible repeat' (first | exact True.intro | refine Lf.mk ?_ ?_ | intro hb)
  refine Cal (cast_succ) (slIdxS_ok xs s hx) ?_
  refine Run ((idx_ge (p := fun x => decide (x = s)) (l := xs))) ?_; with_reducible repeat' (first | exact True.intro | refine Lf.mk ?_ ?_ | intro hb)
def fc114A23 := (ai (ai (ai sz4 ag4) (ai zv4 un4)) (ai (ai sz9 ag9) (ai zv9 (ai un9 okf120))))
theorem cmpLess_ok (x y : ByteArray) : FnS Try.prog 114 [] [sT x, sT y] [] (bT (sLt x y)) := by
  refine FnS.go [0, 1, 4] [] Try.func114 rfl (fun kt kz => ?_)
  have fcx := fc114A23
  simp only [Try.f114]
  refine Run (cast_succ) ?_; with_reducible repeat' (first | exact True.intro | refine Lf.mk ?_ ?_ | intro hb)
  refine Cal (cast_succ) (isNaNS_ok x) ?_
  refine Run (cast_succ) ?_; with_reducible repeat' (first | exact True.intro | refine Lf.mk ?_ ?_ | intro hb)
def fc91A23 := (ai (ai (ai (ai sz3 ag3) (ai zv3 (ai un3 sz4))) (ai (ai ag4 zv4) (ai un4 (ai sz9 ag9)))) (ai (ai (ai zv9 un9) (ai sz55 (ai ag55 zv55))) (ai (ai sb55 un55) (ai el55 (ai ap55 okf114)))))
theorem slSortedS_ok (xs : List ByteArray) (hx : xs.length ≤ 2^48) : FnS Try.prog 91 [] [slT eS xs] [] (bT (decide (SortedS xs))) := by
  refine FnS.go [0, 2, 3, 8, 20] [] Try.func91 rfl (fun kt kz => ?_)
  have fcx := fc91A23
  simp only [Try.f91]
  by_cases h0 : xs = []
  · subst h0
    refine Run (cast_succ) ?_; with_reducible repeat' (first | exact True.intro | refine Lf.mk ?_ ?_ | intro hb)
    refine Trn (α := Nat) [2, 3, 7, 8, 9, 10, 11, 12, 13, 14, 15, 16, 17, 18, 19, 20] (fun i => [(3, iT (((0 : Nat) : Int) - 1))]) (fun i => []) (fun i => True) (fun i => i) (0) (trivial) (cast_succ) ?_; intro lx hI; obtain i := lx; (try simp only [List.nil_append, List.cons_append] at hI ⊢)
    refine Run (cast_succ) ?_; with_reducible repeat' (first | exact True.intro | refine Lf.mk ?_ ?_ | intro hb)
    · omega
    · rw [decide_eq_true (show SortedS [] from fun k h => by simp at h)]
  · have hl : 0 < xs.length := List.length_pos_iff.2 h0
    refine Run (cast_succ) ?_; with_reducible repeat' (first | exact True.intro | refine Lf.mk ?_ ?_ | intro hb)
    refine Trn (α := Nat) [2, 3, 7, 8, 9, 10, 11, 12, 13, 14, 15, 16, 17, 18, 19, 20] (fun i => [(3, iT (i : Int))]) (fun i => []) (fun i => i < xs.length ∧ ∀ k, (h : k + 1 < xs.length) → i ≤ k → sLt xs[k + 1] (xs[k]'(by omega)) = false) (fun i => i) (xs.length - 1) (⟨by omega, fun k h hk => by omega⟩) ((show ((xs.length - 1 : Nat) : Int) = (xs.length : Int) - 1 by omega)) ?_; intro lx hI; obtain i := lx; (try simp only [List.nil_append, List.cons_append] at hI ⊢)
    by_cases hp : 0 < lx
    · have hz : (0 : Int) < (lx : Int) := by omega
      refine Run ((ai @hz @eS.eq_1)) ?_; with_reducible repeat' (first | exact True.intro | refine Lf.mk ?_ ?_ | intro hb)
      refine Cal (cast_succ) (cmpLess_ok xs[lx] xs[lx - 1]) ?_
      refine Run (cast_succ) ?_; with_reducible repeat' (first | exact True.intro | refine Lf.mk ?_ ?_ | intro hb)
      · rw [decide_eq_false fun hs => by
          have h1 := hs (lx - 1) (by omega)
          have e : lx - 1 + 1 = lx := by omega
          simp only [e] at h1
          rw [hb] at h1; cases h1]
      · exact Nxt ((show ((lx - 1 : Nat) : Int) = (lx : Int) - 1 by omega)) (lx - 1) (⟨by omega, fun k h hk => by
          by_cases hk2 : lx ≤ k
          · exact hI.2 k h hk2
          · have e : k = lx - 1 := by omega
            subst e
            have e : lx - 1 + 1 = lx := by omega
            simp only [e]
            exact hb⟩) (by omega)
    · have hz : ¬ (0 : Int) < (lx : Int) := by omega
      refine Run (@hz) ?_; with_reducible repeat' (first | exact True.intro | refine Lf.mk ?_ ?_ | intro hb)
      rw [decide_eq_true (show SortedS xs from fun k h => hI.2 k h (by omega))]

end Go.VC.T
/- Data (Mono): how they are measured, copied and compared. -/
namespace Go.VC.T
open Go Go.VC Go.Proofs Go.VC.F
set_option linter.unusedSimpArgs false
set_option linter.unusedVariables false
set_option linter.defProp false
set_option maxRecDepth 100000
set_option maxHeartbeats 2000000
def fc54SMono := (ai (ai (ai (ai sz3 ag3) (ai zv3 (ai un3 sz4))) (ai (ai ag4 (ai zv4 un4)) (ai sz55 (ai ag55 zv55)))) (ai (ai (ai sb55 un55) (ai el55 (ai ap55 sz93))) (ai (ai ag93 (ai zv93 fl93_0)) (ai fl93_1 (ai pl93 okf87)))))
theorem szMono_ok (t : Mono) (h : okMono (2^48) t) (left : Int) (hl : 0 ≤ left ∧ left ≤ 2^20) : FnS Try.prog 54 [] [agT (eMono t), iT left] [] (iT (szR (zMono t) left)) := by
  refine FnS.go [0, 1, 2, 4, 10] [] Try.func54 rfl (fun kt kz => ?_)
  have fcx := fc54SMono
  simp only [Try.f54]
  have ho := okMono_iff.1 h
  refine Run ((ai @eMono_eta @szR_add)) ?_; with_reducible repeat' (first | exact True.intro | refine Lf.mk ?_ ?_ | intro hb)
  refine Cal ((ai @eMono_eta @szR_add)) (szStringS_ok _ ho.2 _ hl) ?_
  have hz := szR_le (n := zSL t.vars) hl.1
  refine Run ((ai @eMono_eta @szR_add)) ?_; with_reducible repeat' (first | exact True.intro | refine Lf.mk ?_ ?_ | intro hb)
  · congr 4; have s1 := szR_spec (zSL t.vars) left; have s2 := szR_spec (zMono t) left; rw [zMono_eta] at s2 ⊢; omega
  · skip
    rw [zMono_eta]
def fc24SMono := (ai (ai (ai (ai sz3 ag3) (ai zv3 (ai un3 sz4))) (ai (ai ag4 (ai zv4 un4)) (ai sz22 (ai ag22 zv22)))) (ai (ai (ai sb22 (ai un22 el22)) (ai ap22 (ai sz93 ag93))) (ai (ai zv93 (ai fl93_0 fl93_1)) (ai pl93 (ai okf54 sz55)))))
theorem szMonoS_of (xs : List Mono) (hx : okLs (2^48) okMono xs) (H : ∀ t ∈ xs, ∀ left : Int, 0 ≤ left ∧ left ≤ 2^20 → FnP Try.prog 54 [agT (eMono t), iT left] (iT (szR (zMono t) left))) (left : Int) (hl : 0 ≤ left ∧ left ≤ 2^20) : FnS Try.prog 24 [] [slT eMono xs, iT left] [] (iT (szR (zL zMono xs) left)) := by
  refine FnS.go [0, 1, 4, 5, 11, 15, 25] [] Try.func24 rfl (fun kt kz => ?_)
  have fcx := fc24SMono
  simp only [Try.f24]
  have hx1 := hx.1
  refine Run (cast_succ) ?_; with_reducible repeat' (first | exact True.intro | refine Lf.mk ?_ ?_ | intro hb)
  · simp only [szR_nil hb zL_len]
  · rw [szR_sub hb]
    have hb2 := szR_sub hb ▸ hb
    refine Trn (α := Nat) [1, 4, 5, 12, 13, 14, 15, 16, 17, 18, 19, 20, 21, 22, 23, 24, 25] (fun i => [(5, iT i), (1, iT (szR (zT zMono xs i) left))]) (fun i => []) (fun i => i ≤ xs.length ∧ 0 ≤ szR (zT zMono xs i) left) (fun i => xs.length - i) (0) (⟨Nat.zero_le _, by rw [zT_zero]; exact hb2⟩) ((zT_zero (z := zMono) (l := xs))) ?_; intro lx hI; obtain i := lx; (try simp only [List.nil_append, List.cons_append] at hI ⊢)
    have hz := szR_le (n := zT zMono xs lx) hl.1
    by_cases hlt : lx < xs.length
    · have e : szR (zMono xs[lx]) (szR (zT zMono xs lx) left) = szR (zT zMono xs (lx + 1)) left := by rw [zT_succ hlt, ← szR_add]
      refine Run (@eMono_eta) ?_; with_reducible repeat' (first | exact True.intro | refine Lf.mk ?_ ?_ | intro hb)
      · refine Cal (@eMono_eta) (H _ (List.getElem_mem hlt) _ ⟨hI.2, by omega⟩) ?_
        refine Run (cast_succ) ?_; with_reducible repeat' (first | exact True.intro | refine Lf.mk ?_ ?_ | intro hb)
        · rw [e] at hb
          rw [szR_neg hb zT_le]
        · rw [e] at hb
          exact Nxt (@e) (lx + 1) (⟨by omega, hb⟩) (by first | omega | (simp; omega))
      · omega
    · refine Run (cast_succ) ?_; with_reducible repeat' (first | exact True.intro | refine Lf.mk ?_ ?_ | intro hb)
      · omega
      · rw [zT_all (by omega)]

theorem szMonoS_ok (xs : List Mono) (h : okLs (2^48) okMono xs) (left : Int) (hl : 0 ≤ left ∧ left ≤ 2^20) : FnP Try.prog 24 [slT eMono xs, iT left] (iT (szR (zL zMono xs) left)) := szMonoS_of xs h (fun t ht left hl => szMono_ok t (h.2 t ht) left hl) left hl
def fc57SMono := (ai (ai (ai (ai sz3 (ai ag3 zv3)) (ai un3 (ai sz55 ag55))) (ai (ai zv55 (ai sb55 un55)) (ai el55 (ai ap55 sz57)))) (ai (ai (ai ag57 (ai zv57 fl57_0)) (ai fl57_1 (ai pl57 sz93))) (ai (ai ag93 (ai zv93 fl93_0)) (ai fl93_1 (ai pl93 okf89)))))
theorem toMono_w (t : Mono) (h : okMono (2^20) t) : FnS Try.prog 57 [] [agT (eMono t)] [(1000, .row t.vars.length (t.vars.flatMap eS))] (.ag [.im (.sc (.int .i64 t.coef)), .os 1000 t.vars.length]) := by
  refine FnS.go [0, 1, 2, 3] [] Try.func57 rfl (fun kt kz => ?_)
  have fcx := fc57SMono
  simp only [Try.f57]
  have ho := okMono_iff.1 h
  refine Run (@eMono_eta) ?_; with_reducible repeat' (first | exact True.intro | refine Lf.mk ?_ ?_ | intro hb)
  refine CalI (@eMono_eta) (toStringS_o _ ho.2 1000) ?_
  refine Run (@eMono_eta) ?_; with_reducible repeat' (first | exact True.intro | refine Lf.mk ?_ ?_ | intro hb)

theorem toMono_o (t : Mono) (h : okMono (2^20) t) : ∀ q0 : Nat, [q0].Nodup → FnS Try.prog 57 [] [agT (eMono t)] [(q0, .row t.vars.length (t.vars.flatMap eS))] (.ag [.im (.sc (.int .i64 t.coef)), .os q0 t.vars.length]) := by
  intro q0 hq
  obtain ⟨p, hp⟩ := pml [1000] [q0] (by decide) hq rfl
  simp only [List.map_cons, List.map_nil, List.cons.injEq, and_true] at hp
  refine ((toMono_w t h).rows.pm p).as ?_ ?_ <;> simp [rowS, rowO, renS, Ob.ren, TV.ren, renL, Cell.ren, hp]
def fc28SMono := (ai (ai (ai (ai (ai sz3 ag3) (ai zv3 un3)) (ai (ai sz4 ag4) (ai zv4 (ai un4 sz22)))) (ai (ai (ai ag22 zv22) (ai sb22 un22)) (ai (ai el22 ap22) (ai sz26 (ai ag26 zv26))))) (ai (ai (ai (ai sb26 un26) (ai el26 ap26)) (ai (ai sz57 ag57) (ai zv57 (ai fl57_0 fl57_1)))) (ai (ai (ai pl57 sz93) (ai ag93 zv93)) (ai (ai fl93_0 fl93_1) (ai pl93 (ai okf57 sz55))))))
theorem toMonoS_w (xs : List Mono) (hx : okLs (2^20) okMono xs) (H : ∀ t ∈ xs, ∀ q0 : Nat, [q0].Nodup → FnS Try.prog 57 [] [agT (eMono t)] [(q0, .row t.vars.length (t.vars.flatMap eS))] (.ag [.im (.sc (.int .i64 t.coef)), .os q0 t.vars.length])) : FnS Try.prog 28 [] [slT eMono xs] [(14, .vec 57 2 xs.length (xs.flatMap eMono) true)] (.c (.os 14 xs.length)) := by
  refine FnS.go [0, 2, 3, 4, 11] [] Try.func28 rfl (fun kt kz => ?_)
  have fcx := fc28SMono
  simp only [Try.f28]
  have hx1 := hx.1
  refine Run (cast_succ) ?_; with_reducible repeat' (first | exact True.intro | refine Lf.mk ?_ ?_ | intro hb)
  refine Trn (α := Nat) [4, 8, 9, 10, 11, 12, 13, 14, 15, 16, 17, 18, 19, 20, 21] (fun i => [(4, iT i), (3, .c (.os 14 xs.length))]) (fun i => [(14, .vec 57 2 xs.length (filled eMono [.sc (.int .i64 0), .sl 0 []] xs i) true)]) (fun i => i ≤ xs.length) (fun i => xs.length - i) (0) (Nat.zero_le _) (cast_succ) ?_; intro lx hI; obtain i := lx; (try simp only [List.nil_append, List.cons_append] at hI ⊢)
  refine Run (@eMono_eta) ?_; with_reducible repeat' (first | exact True.intro | refine Lf.mk ?_ ?_ | intro hb)
  · refine CalI (@eMono_eta) (H _ (List.getElem_mem hb) 1000 (by decide)) ?_
    refine Run (@eMono_eta) ?_; with_reducible repeat' (first | exact True.intro | refine Lf.mk ?_ ?_ | intro hb)
    have hs := filled_step' (E := eMono) (zs := [.sc (.int .i64 0), .sl 0 []]) hb
    simp only [eMono_eta, setL_st, stL_one, slI] at hs
    exact Nxt (@hs) (lx + 1) (by omega) (by first | omega | (simp; omega))

theorem toMonoS_q (xs : List Mono) (hx : okLs (2^20) okMono xs) (H : ∀ t ∈ xs, ∀ q0 : Nat, [q0].Nodup → FnS Try.prog 57 [] [agT (eMono t)] [(q0, .row t.vars.length (t.vars.flatMap eS))] (.ag [.im (.sc (.int .i64 t.coef)), .os q0 t.vars.length])) (q : Nat) : FnS Try.prog 28 [] [slT eMono xs] [(q, .row xs.length (xs.flatMap eMono))] (.c (.os q xs.length)) := by
  obtain ⟨p, hp⟩ := pm1 14 q
  refine ((toMonoS_w xs hx H).rows.pm p).as ?_ ?_ <;> simp [rowS, rowO, renS, Ob.ren, TV.ren, Cell.ren, hp]

theorem toMonoS_o (xs : List Mono) (h : okLs (2^20) okMono xs) (q : Nat) : FnS Try.prog 28 [] [slT eMono xs] [(q, .row xs.length (xs.flatMap eMono))] (.c (.os q xs.length)) := toMonoS_q xs h (fun t ht => toMono_o t (h.2 t ht)) q
def fc65SMono := (ai (ai (ai (ai sz3 ag3) (ai zv3 (ai un3 sz4))) (ai (ai ag4 (ai zv4 un4)) (ai sz55 (ai ag55 zv55)))) (ai (ai (ai sb55 un55) (ai el55 (ai ap55 sz57))) (ai (ai ag57 (ai zv57 fl57_0)) (ai fl57_1 (ai pl57 okf95)))))
theorem eqMono_ok (t : Mono) (h : okMono (2^20) t) : FnS Try.prog 65 [] [agT (eMono t), agT (eMono t)] [] (bT true) := by
  refine FnS.go [0, 1, 2, 3, 4, 9, 15] [] Try.func65 rfl (fun kt kz => ?_)
  have fcx := fc65SMono
  simp only [Try.f65]
  have ho := okMono_iff.1 h
  refine Run (@eMono_eta) ?_; with_reducible repeat' (first | exact True.intro | refine Lf.mk ?_ ?_ | intro hb)
  refine Cal (@eMono_eta) (eqStringS_rf _ ho.2) ?_
  refine Run (@eMono_eta) ?_; with_reducible repeat' (first | exact True.intro | refine Lf.mk ?_ ?_ | intro hb)
def fc33SMono := (ai (ai (ai (ai sz3 ag3) (ai zv3 (ai un3 sz4))) (ai (ai ag4 (ai zv4 un4)) (ai sz26 (ai ag26 zv26)))) (ai (ai (ai sb26 (ai un26 el26)) (ai ap26 (ai sz57 ag57))) (ai (ai zv57 (ai fl57_0 fl57_1)) (ai pl57 (ai okf65 sz55)))))
theorem eqMonoS_of (xs : List Mono) (hx : okLs (2^20) okMono xs) (H : ∀ t ∈ xs, FnP Try.prog 65 [agT (eMono t), agT (eMono t)] (bT true)) : FnS Try.prog 33 [] [slT eMono xs, slT eMono xs] [] (bT true) := by
  refine FnS.go [0, 1, 4, 5, 10, 14, 26] [] Try.func33 rfl (fun kt kz => ?_)
  have fcx := fc33SMono
  simp only [Try.f33]
  have hx1 := hx.1
  refine Run (cast_succ) ?_; with_reducible repeat' (first | exact True.intro | refine Lf.mk ?_ ?_ | intro hb)
  refine Trn (α := Nat) [4, 5, 11, 12, 13, 14, 15, 16, 17, 18, 19, 20, 21, 22, 23, 24, 25, 26] (fun i => [(5, iT i)]) (fun i => []) (fun i => i ≤ xs.length) (fun i => xs.length - i) (0) (Nat.zero_le _) (cast_succ) ?_; intro lx hI; obtain i := lx; (try simp only [List.nil_append, List.cons_append] at hI ⊢)
  refine Run (@eMono_eta) ?_; with_reducible repeat' (first | exact True.intro | refine Lf.mk ?_ ?_ | intro hb)
  · refine Cal (@eMono_eta) (H _ (List.getElem_mem hb)) ?_
    refine Run (@eMono_eta) ?_; with_reducible repeat' (first | exact True.intro | refine Lf.mk ?_ ?_ | intro hb)
    exact Nxt (cast_succ) (lx + 1) (by omega) (by first | omega | (simp; omega))

theorem eqMonoS_ok (xs : List Mono) (h : okLs (2^20) okMono xs) : FnP Try.prog 33 [slT eMono xs, slT eMono xs] (bT true) := eqMonoS_of xs h (fun t ht => eqMono_ok t (h.2 t ht))
end Go.VC.T
/- Data (Poly): how they are measured, copied and compared. -/
namespace Go.VC.T
open Go Go.VC Go.Proofs Go.VC.F
set_option linter.unusedSimpArgs false
set_option linter.unusedVariables false
set_option linter.defProp false
set_option maxRecDepth 100000
set_option maxHeartbeats 2000000
def fc6SPoly := (ai (ai (ai (ai sz3 ag3) (ai zv3 (ai un3 sz4))) (ai (ai ag4 zv4) (ai un4 (ai sz22 ag22)))) (ai (ai (ai zv22 sb22) (ai un22 (ai el22 ap22))) (ai (ai sz24 (ai ag24 zv24)) (ai fl24_0 (ai pl24 okf24)))))
theorem szPoly_ok (t : List Mono) (h : okPoly (2^48) t) (left : Int) (hl : 0 ≤ left ∧ left ≤ 2^20) : FnS Try.prog 6 [] [agT (ePoly t), iT left] [] (iT (szR (zPoly t) left)) := by
  refine FnS.go [0, 1, 2, 4, 10] [] Try.func6 rfl (fun kt kz => ?_)
  have fcx := fc6SPoly
  simp only [Try.f6]
  have ho := okPoly_iff.1 h
  refine Run ((ai @ePoly_eta @szR_add)) ?_; with_reducible repeat' (first | exact True.intro | refine Lf.mk ?_ ?_ | intro hb)
  refine Cal ((ai @ePoly_eta @szR_add)) (szMonoS_ok _ ho _ hl) ?_
  have hz := szR_le (n := zL zMono t) hl.1
  refine Run ((ai @ePoly_eta @szR_add)) ?_; with_reducible repeat' (first | exact True.intro | refine Lf.mk ?_ ?_ | intro hb)
  · congr 4; have s1 := szR_spec (zL zMono t) left; have s2 := szR_spec (zPoly t) left; rw [zPoly_eta] at s2 ⊢; omega
  · skip
    rw [zPoly_eta]

def fc8SPoly := (ai (ai (ai (ai sz22 (ai ag22 zv22)) (ai sb22 (ai un22 el22))) (ai (ai ap22 (ai sz24 ag24)) (ai zv24 (ai fl24_0 pl24)))) (ai (ai (ai sz26 (ai ag26 zv26)) (ai sb26 (ai un26 el26))) (ai (ai ap26 (ai sz28 ag28)) (ai (ai zv28 fl28_0) (ai pl28 okf28)))))
theorem toPoly_w (t : List Mono) (h : okPoly (2^20) t) : FnS Try.prog 8 [] [agT (ePoly t)] [(1000, .row t.length (t.flatMap eMono))] (.ag [.os 1000 t.length]) := by
  refine FnS.go [0, 1, 2, 3] [] Try.func8 rfl (fun kt kz => ?_)
  have fcx := fc8SPoly
  simp only [Try.f8]
  have ho := okPoly_iff.1 h
  refine Run (@ePoly_eta) ?_; with_reducible repeat' (first | exact True.intro | refine Lf.mk ?_ ?_ | intro hb)
  refine CalI (@ePoly_eta) (toMonoS_o _ ho 1000) ?_
  refine Run (@ePoly_eta) ?_; with_reducible repeat' (first | exact True.intro | refine Lf.mk ?_ ?_ | intro hb)

theorem toPoly_o (t : List Mono) (h : okPoly (2^20) t) : ∀ q0 : Nat, [q0].Nodup → FnS Try.prog 8 [] [agT (ePoly t)] [(q0, .row t.length (t.flatMap eMono))] (.ag [.os q0 t.length]) := by
  intro q0 hq
  obtain ⟨p, hp⟩ := pml [1000] [q0] (by decide) hq rfl
  simp only [List.map_cons, List.map_nil, List.cons.injEq, and_true] at hp
  refine ((toPoly_w t h).rows.pm p).as ?_ ?_ <;> simp [rowS, rowO, renS, Ob.ren, TV.ren, renL, Cell.ren, hp]

def fc10SPoly := (ai (ai (ai (ai sz4 ag4) (ai zv4 un4)) (ai (ai sz26 ag26) (ai zv26 sb26))) (ai (ai (ai un26 el26) (ai ap26 sz28)) (ai (ai ag28 zv28) (ai fl28_0 (ai pl28 okf33)))))
theorem eqPoly_ok (t : List Mono) (h : okPoly (2^20) t) : FnS Try.prog 10 [] [agT (ePoly t), agT (ePoly t)] [] (bT true) := by
  refine FnS.go [0, 1, 2, 3, 4, 10] [] Try.func10 rfl (fun kt kz => ?_)
  have fcx := fc10SPoly
  simp only [Try.f10]
  have ho := okPoly_iff.1 h
  refine Run (@ePoly_eta) ?_; with_reducible repeat' (first | exact True.intro | refine Lf.mk ?_ ?_ | intro hb)
  refine Cal (@ePoly_eta) (eqMonoS_ok _ ho) ?_
  refine Run (@ePoly_eta) ?_; with_reducible repeat' (first | exact True.intro | refine Lf.mk ?_ ?_ | intro hb)

theorem toPoly_ok (t : List Mono) (h : okPoly (2^20) t) : FnP Try.prog 8 [agT (ePoly t)] (agT (ePoly t)) := (toPoly_o t h 1000 (by decide)).tree (by simp -dsimp (maxSteps := 2000000) (disch := omega) only [vs, ↓Option.bind_some, ev1, ofV, scalarB, Kn, Kb, calleeOf, evLoad, ptr, evField, evFieldAddr, shift, ↓pt_at, ↓pt_at1, evExtract, evBin, evLen, evConv, cellsT, noS, Cell.has, Cell.hasN, Cell.anyN, toIV, toIV0, toIVs, ownC, srcM, Ob.own, Ob.esz, allSc, nilK, lenC, ownCell, isPtr, ptrNil, frzO, Cell.frz, Cell.keys, ↓reduceIte, reduceCtorEq, Nat.reduceEqDiff, Nat.reduceBEq, Nat.reduceBNe, Nat.reduceAdd, Nat.reduceMul, Nat.reduceSub, Nat.reduceLT, Nat.reduceLeDiff, Nat.reducePow, Int.reduceLT, Int.reduceLE, Int.reduceEq, Int.reduceNe, quietB, Nat.reduceMod, Int.reduceToNat, ne_eq, eq_self, exists_const, evBytes, byRow, byL, byStr_size, ifsz, ByteArray.size_append, Option.none_or, Option.some_or, evLook, keyD, ePoly_eta])

end Go.VC.T
/- Marks as texts; rows of texts and numbers that are marked. -/
namespace Go.VC
/-- The digits of a number, ahead of a text. -/
def dgt (k : Nat) (out : ByteArray) : ByteArray := if _h : k = 0 then out else dgt (k / 10) (byStr [((48 + k % 10 : Nat) : Int)] ++ out)
termination_by k
decreasing_by omega
theorem dgt_zero {out : ByteArray} : dgt 0 out = out := by rw [dgt]; simp
theorem dgt_pos {k : Nat} {out : ByteArray} (h : 0 < k) : dgt k out = dgt (k / 10) (byStr [((48 + k % 10 : Nat) : Int)] ++ out) := by
  conv => lhs; rw [dgt]
  rw [dif_neg (by omega)]
def mT (k : Int) : ByteArray := if k ≤ 0 then ⟨#[109, 48]⟩ else ⟨#[109]⟩ ++ dgt k.toNat ⟨#[]⟩
end Go.VC
namespace Go.VC.T
open Go Go.VC Go.Proofs Go.VC.F
set_option linter.unusedSimpArgs false
set_option linter.unusedVariables false
set_option linter.defProp false
set_option maxRecDepth 100000
set_option maxHeartbeats 2000000
theorem dg_wrap (m : Nat) : IntKind.u8.wrap (IntKind.i64.wrap (48 + (m : Int).tmod 10)) = ((48 + m % 10 : Nat) : Int) := by
  have h : (m : Int).tmod 10 = ((m % 10 : Nat) : Int) := by rw [Int.tmod_eq_emod_of_nonneg (by omega)]; omega
  rw [h, wrap64 (by omega)]
  simp [IntKind.wrap, IntKind.signed, IntKind.bits]
  omega
theorem dg_div (m : Nat) : (m : Int).tdiv 10 = ((m / 10 : Nat) : Int) := by
  rw [Int.tdiv_eq_ediv_of_nonneg (by omega)]; omega
def fc80M0 := (ai (ai (ai (ai sz3 ag3) (ai zv3 (ai un3 sz4))) (ai (ai ag4 (ai zv4 un4)) (ai sz5 (ai ag5 zv5)))) (ai (ai (ai un5 (ai sz9 ag9)) (ai zv9 (ai un9 sz139))) (ai (ai ag139 (ai zv139 sb139)) (ai un139 (ai el139 ap139)))))
theorem markText_ok (k : Int) (hk : k ≤ 2^62) : FnS Try.prog 80 [] [iT k] [] (sT (mT k)) := by
  refine FnS.go [0, 2, 3, 5, 7] [] Try.func80 rfl (fun kt kz => ?_)
  have fcx := fc80M0
  simp only [Try.f80]
  refine Run (cast_succ) ?_; with_reducible repeat' (first | exact True.intro | refine Lf.mk ?_ ?_ | intro hb)
  · simp only [mT, if_pos hb]
  refine Trn (α := Nat × ByteArray) [0, 3, 6, 7, 8, 9, 10, 11, 12, 13, 14, 15, 16, 17] (fun ⟨m, o⟩ => [(0, iT (m : Int)), (3, sT o)]) (fun ⟨m, o⟩ => []) (fun ⟨m, o⟩ => (m : Int) ≤ 2^62 ∧ dgt m o = dgt k.toNat ⟨#[]⟩ ∧ o.size + m ≤ k.toNat) (fun ⟨m, o⟩ => m) ((k.toNat, ⟨#[]⟩)) (⟨by omega, rfl, by show 0 + k.toNat ≤ k.toNat; omega⟩) ((show ((k.toNat : Nat) : Int) = k by omega)) ?_; intro lx hI; obtain ⟨m, o⟩ := lx; (try simp only [List.nil_append, List.cons_append] at hI ⊢)
  have hk2 : (k.toNat : Int) ≤ 2^62 := by omega
  refine Run ((ai (dg_wrap m) (ai (dg_div m) (show (ByteArray.mk #[109]).size = 1 from rfl)))) ?_; with_reducible repeat' (first | exact True.intro | refine Lf.mk ?_ ?_ | intro hb)
  · exact Nxt (cast_succ) ((m / 10, byStr [((48 + m % 10 : Nat) : Int)] ++ o)) (⟨by omega, by rw [← dgt_pos (by omega)]; exact hI.2.1, by rw [ByteArray.size_append, byStr_size]; simp only [List.length_cons, List.length_nil]; omega⟩) (by first | omega | (simp; omega))
  · have hm : m = 0 := by omega
    subst hm
    have hd := hI.2.1
    rw [dgt_zero] at hd
    simp only [mT, if_neg (show ¬ k ≤ 0 by omega), hd]

end Go.VC.T
/- Rows of texts and numbers: how they are marked. -/
namespace Go.VC.T
open Go Go.VC Go.Proofs Go.VC.F
set_option linter.unusedSimpArgs false
set_option linter.unusedVariables false
set_option linter.defProp false
set_option maxRecDepth 100000
set_option maxHeartbeats 2000000
def fc66M1 := (ai (ai (ai (ai sz3 ag3) (ai zv3 (ai un3 sz4))) (ai (ai ag4 zv4) (ai un4 (ai sz9 ag9)))) (ai (ai (ai zv9 un9) (ai sz55 (ai ag55 zv55))) (ai (ai sb55 un55) (ai el55 (ai ap55 okf80)))))
theorem markStringS_of (xs : List ByteArray) (k : Int) (hk : 0 ≤ k ∧ k + (cnL (xs.flatMap eS) : Int) ≤ 2^60) : FnS Try.prog 66 [(1, .row xs.length (xs.flatMap eS))] [.c (.os 1 xs.length), iT k] [(1, .row xs.length (mkL mT k (xs.flatMap eS)))] (iT (k + (cnL (xs.flatMap eS) : Int))) := by
  refine FnS.go [0, 1, 4, 5, 9] [] Try.func66 rfl (fun kt kz => ?_)
  have fcx := fc66M1
  simp only [Try.f66]
  have hx : xs.length ≤ 2^60 := by have := cnL_len (E := eS) (xs := xs); omega
  refine Run (cast_succ) ?_; with_reducible repeat' (first | exact True.intro | refine Lf.mk ?_ ?_ | intro hb)
  refine Trn (α := Nat) [1, 5, 6, 7, 8, 9, 10, 11, 12, 13, 14, 15, 16, 17, 18] (fun i => [(5, iT i), (1, iT (k + (cnT eS xs i : Int)))]) (fun i => [(1, .row xs.length (mkA mT eS k xs i ++ (xs.drop i).flatMap eS))]) (fun i => i ≤ xs.length) (fun i => xs.length - i) (0) (Nat.zero_le _) ((ai (ai (mkA_zero mT (E := eS) (k := k) (xs := xs)) (cnT_zero (E := eS) (xs := xs))) (ai (List.drop_zero (l := xs)) (ai @Int.ofNat_zero @Int.add_zero)))) ?_; intro lx hI; obtain i := lx; (try simp only [List.nil_append, List.cons_append] at hI ⊢)
  by_cases hlt : lx < xs.length
  · have hA : (mkA mT eS k xs lx).length = lx := by have := mkA_len mT (E := eS) (k := k) (Nat.le_of_lt hlt); omega
    have hd := drop_flat (E := eS) hlt
    simp only [eS] at hd
    have hc := cnT_le (E := eS) (xs := xs) (i := lx + 1)
    have ecn : cnT eS xs (lx + 1) = cnT eS xs lx + (1) := by rw [cnT_succ hlt]; (simp only [eS, slI, cnL_i, cnL_s, cnL_l, cnL_n]) <;> omega
    have e : k + (cnT eS xs lx : Int) + 1 = k + (cnT eS xs (lx + 1) : Int) := by omega
    have ec : mkA mT eS k xs lx ++ (.sc (.string (mT (k + (cnT eS xs lx : Int)))) :: (xs.drop (lx + 1)).flatMap eS) = mkA mT eS k xs (lx + 1) ++ (xs.drop (lx + 1)).flatMap eS := by rw [mkA_succ mT hlt]; simp only [eS, slI, mkL_i, mkL_s, mkL_l, mkL_n, List.append_assoc, List.cons_append, List.nil_append]
    refine Run ((ai (ai @hd (ai @hlt @ivl)) (ai (ai @iv0 @ivs) (ai @ownCells_get (mid_set0 hA))))) ?_; with_reducible repeat' (first | exact True.intro | refine Lf.mk ?_ ?_ | intro hb)
    refine Cal ((ai (ai @hd (ai @hlt @ivl)) (ai (ai @iv0 @ivs) (ai @ownCells_get (mid_set0 hA))))) (markText_ok (k + (cnT eS xs lx : Int)) (by omega)) ?_
    refine Run ((ai (ai @hd (ai @hlt @ivl)) (ai (ai @iv0 @ivs) (ai @ownCells_get (mid_set0 hA))))) ?_; with_reducible repeat' (first | exact True.intro | refine Lf.mk ?_ ?_ | intro hb)
    exact Nxt ((ai @e @ec)) (lx + 1) (by omega) (by first | omega | (simp; omega))
  · have hge : xs.length ≤ lx := by omega
    have e1 := cnT_all (E := eS) hge
    have e2 := mkA_all mT (E := eS) (k := k) hge
    have e3 := drop_all (E := eS) hge
    refine Run ((ai (ai @e1 @e2) (ai @e3 @hlt))) ?_; with_reducible repeat' (first | exact True.intro | refine Lf.mk ?_ ?_ | intro hb)

theorem markStringS_ok (xs : List ByteArray) (k : Int) (hk : 0 ≤ k ∧ k + (cnL (xs.flatMap eS) : Int) ≤ 2^60) : FnS Try.prog 66 [(1, .row xs.length (xs.flatMap eS))] [.c (.os 1 xs.length), iT k] [(1, .row xs.length (mkL mT k (xs.flatMap eS)))] (iT (k + (cnL (xs.flatMap eS) : Int))) := markStringS_of xs k hk
def fc67M1 := (ai (ai (ai (ai sz3 ag3) (ai zv3 (ai un3 sz4))) (ai (ai ag4 zv4) (ai un4 (ai sz9 ag9)))) (ai (ai (ai zv9 un9) (ai sz55 (ai ag55 zv55))) (ai (ai sb55 un55) (ai el55 (ai ap55 okf80)))))
theorem heldStringS_of (xs : List ByteArray) (k : Int) (hk : 0 ≤ k ∧ k + (cnL (xs.flatMap eS) : Int) ≤ 2^60) : FnS Try.prog 67 [] [.c (.im (.sl xs.length (mkL mT k (xs.flatMap eS)))), iT k] [] (iT (k + (cnL (xs.flatMap eS) : Int))) := by
  refine FnS.go [0, 1, 4, 5, 9, 18] [] Try.func67 rfl (fun kt kz => ?_)
  have fcx := fc67M1
  simp only [Try.f67]
  have hx : xs.length ≤ 2^60 := by have := cnL_len (E := eS) (xs := xs); omega
  refine Run (cast_succ) ?_; with_reducible repeat' (first | exact True.intro | refine Lf.mk ?_ ?_ | intro hb)
  refine Trn (α := Nat) [1, 4, 5, 6, 7, 8, 9, 10, 11, 12, 13, 14, 15, 16, 17, 18, 19, 20] (fun i => [(5, iT i), (1, iT (k + (cnT eS xs i : Int)))]) (fun i => []) (fun i => i ≤ xs.length) (fun i => xs.length - i) (0) (Nat.zero_le _) ((ai (cnT_zero (E := eS) (xs := xs)) (ai @Int.ofNat_zero @Int.add_zero))) ?_; intro lx hI; obtain i := lx; (try simp only [List.nil_append, List.cons_append] at hI ⊢)
  by_cases hlt : lx < xs.length
  · have hp := pt_mk1 mT (E := eS) (k := k) hlt
    simp only [eS, slI, mkL_i, mkL_s, mkL_l, mkL_n, List.cons_append, List.nil_append] at hp
    have hc := cnT_le (E := eS) (xs := xs) (i := lx + 1)
    have ecn : cnT eS xs (lx + 1) = cnT eS xs lx + (1) := by rw [cnT_succ hlt]; (simp only [eS, slI, cnL_i, cnL_s, cnL_l, cnL_n]) <;> omega
    have e : k + (cnT eS xs lx : Int) + 1 = k + (cnT eS xs (lx + 1) : Int) := by omega
    refine Run ((ai @hp @hlt)) ?_; with_reducible repeat' (first | exact True.intro | refine Lf.mk ?_ ?_ | intro hb)
    refine Cal ((ai @hp @hlt)) (markText_ok (k + (cnT eS xs lx : Int)) (by omega)) ?_
    refine Run ((ai @hp @hlt)) ?_; with_reducible repeat' (first | exact True.intro | refine Lf.mk ?_ ?_ | intro hb)
    exact Nxt (@e) (lx + 1) (by omega) (by first | omega | (simp; omega))
  · have hge : xs.length ≤ lx := by omega
    have e1 := cnT_all (E := eS) hge
    refine Run ((ai @e1 @hlt)) ?_; with_reducible repeat' (first | exact True.intro | refine Lf.mk ?_ ?_ | intro hb)

theorem heldStringS_ok (xs : List ByteArray) (k : Int) (hk : 0 ≤ k ∧ k + (cnL (xs.flatMap eS) : Int) ≤ 2^60) : FnP Try.prog 67 [.c (.im (.sl xs.length (mkL mT k (xs.flatMap eS)))), iT k] (iT (k + (cnL (xs.flatMap eS) : Int))) := heldStringS_of xs k hk



end Go.VC.T
/- Data (Mono): how they are marked. -/
namespace Go.VC.T
open Go Go.VC Go.Proofs Go.VC.F
set_option linter.unusedSimpArgs false
set_option linter.unusedVariables false
set_option linter.defProp false
set_option maxRecDepth 100000
set_option maxHeartbeats 2000000
def fc34MMono := (ai (ai (ai (ai sz3 (ai ag3 zv3)) (ai (ai un3 sz4) (ai ag4 zv4))) (ai (ai un4 (ai sz26 ag26)) (ai (ai zv26 sb26) (ai un26 el26)))) (ai (ai (ai ap26 (ai sz55 ag55)) (ai (ai zv55 sb55) (ai un55 el55))) (ai (ai (ai ap55 sz57) (ai ag57 zv57)) (ai (ai fl57_0 fl57_1) (ai pl57 okf66)))))
theorem markMonoS_of (xs : List Mono) (k : Int) (hk : 0 ≤ k ∧ k + (cnL (xs.flatMap eMono) : Int) ≤ 2^60) : FnS Try.prog 34 [(1, .row xs.length (xs.flatMap eMono))] [.c (.os 1 xs.length), iT k] [(1, .row xs.length (mkL mT k (xs.flatMap eMono)))] (iT (k + (cnL (xs.flatMap eMono) : Int))) := by
  refine FnS.go [0, 1, 4, 5, 9] [] Try.func34 rfl (fun kt kz => ?_)
  have fcx := fc34MMono
  simp only [Try.f34]
  have hx : xs.length ≤ 2^60 := by have := cnL_len (E := eMono) (xs := xs); omega
  refine Run (cast_succ) ?_; with_reducible repeat' (first | exact True.intro | refine Lf.mk ?_ ?_ | intro hb)
  refine Trn (α := Nat) [1, 5, 6, 7, 8, 9, 10, 11, 12, 13, 14, 15, 16, 17, 18, 19, 20, 21, 22, 23, 24, 25] (fun i => [(5, iT i), (1, iT (k + (cnT eMono xs i : Int)))]) (fun i => [(1, .row xs.length (mkA mT eMono k xs i ++ (xs.drop i).flatMap eMono))]) (fun i => i ≤ xs.length) (fun i => xs.length - i) (0) (Nat.zero_le _) ((ai (ai (mkA_zero mT (E := eMono) (k := k) (xs := xs)) (cnT_zero (E := eMono) (xs := xs))) (ai (List.drop_zero (l := xs)) (ai @Int.ofNat_zero @Int.add_zero)))) ?_; intro lx hI; obtain i := lx; (try simp only [List.nil_append, List.cons_append] at hI ⊢)
  by_cases hlt : lx < xs.length
  · have hA : (mkA mT eMono k xs lx).length = lx * 2 := by have := mkA_len mT (E := eMono) (k := k) (Nat.le_of_lt hlt); omega
    have hd := drop_flat (E := eMono) hlt
    rw [eMono_eta] at hd
    have hc := cnT_le (E := eMono) (xs := xs) (i := lx + 1)
    have ecn : cnT eMono xs (lx + 1) = cnT eMono xs lx + (1 + cnL (xs[lx].vars.flatMap eS)) := by rw [cnT_succ hlt]; (simp only [eMono_eta, slI, cnL_i, cnL_s, cnL_l, cnL_n]) <;> omega
    have e : k + (cnT eMono xs lx : Int) + 1 + (cnL (xs[lx].vars.flatMap eS) : Int) = k + (cnT eMono xs (lx + 1) : Int) := by omega
    have ec : mkA mT eMono k xs lx ++ (.sc (.int .i64 (k + (cnT eMono xs lx : Int))) :: .sl xs[lx].vars.length (mkL mT (k + (cnT eMono xs lx : Int) + 1) (xs[lx].vars.flatMap eS)) :: (xs.drop (lx + 1)).flatMap eMono) = mkA mT eMono k xs (lx + 1) ++ (xs.drop (lx + 1)).flatMap eMono := by rw [mkA_succ mT hlt]; simp only [eMono_eta, slI, mkL_i, mkL_s, mkL_l, mkL_n, List.append_assoc, List.cons_append, List.nil_append]
    refine Run ((ai (ai (ai @hd @hlt) (ai @ivl @iv0)) (ai (ai @ivs @ownCells_get) (ai (mid_set0 hA) (ai (mid_set 1 hA) (mid_get 1 hA)))))) ?_; with_reducible repeat' (first | exact True.intro | refine Lf.mk ?_ ?_ | intro hb)
    refine CalN (⟨⟩ : Nsk (1) (1) ((lx * 2 + 1))) ((ai (ai (ai @hd @hlt) (ai @ivl @iv0)) (ai (ai @ivs @ownCells_get) (ai (mid_set0 hA) (ai (mid_set 1 hA) (mid_get 1 hA)))))) (markStringS_ok (xs[lx].vars) (k + (cnT eMono xs lx : Int) + 1) ⟨by omega, by omega⟩) ?_
    refine Run ((ai (ai (ai @hd @hlt) (ai @ivl @iv0)) (ai (ai @ivs @ownCells_get) (ai (mid_set0 hA) (ai (mid_set 1 hA) (mid_get 1 hA)))))) ?_; with_reducible repeat' (first | exact True.intro | refine Lf.mk ?_ ?_ | intro hb)
    exact Nxt ((ai @e @ec)) (lx + 1) (by omega) (by first | omega | (simp; omega))
  · have hge : xs.length ≤ lx := by omega
    have e1 := cnT_all (E := eMono) hge
    have e2 := mkA_all mT (E := eMono) (k := k) hge
    have e3 := drop_all (E := eMono) hge
    refine Run ((ai (ai @e1 @e2) (ai @e3 @hlt))) ?_; with_reducible repeat' (first | exact True.intro | refine Lf.mk ?_ ?_ | intro hb)

theorem markMonoS_ok (xs : List Mono) (k : Int) (hk : 0 ≤ k ∧ k + (cnL (xs.flatMap eMono) : Int) ≤ 2^60) : FnS Try.prog 34 [(1, .row xs.length (xs.flatMap eMono))] [.c (.os 1 xs.length), iT k] [(1, .row xs.length (mkL mT k (xs.flatMap eMono)))] (iT (k + (cnL (xs.flatMap eMono) : Int))) := markMonoS_of xs k hk
theorem markMonoS_q (xs : List Mono) (k : Int) (hk : 0 ≤ k ∧ k + (cnL (xs.flatMap eMono) : Int) ≤ 2^60) (q : Nat) : FnS Try.prog 34 [(q, .row xs.length (xs.flatMap eMono))] [.c (.os q xs.length), iT k] [(q, .row xs.length (mkL mT k (xs.flatMap eMono)))] (iT (k + (cnL (xs.flatMap eMono) : Int))) := by
  obtain ⟨p, hp⟩ := pm1 1 q
  refine ((markMonoS_ok xs k hk).renA p).asA ?_ ?_ ?_ ?_ <;> simp [renS, Ob.ren, TV.ren, Cell.ren, hp]
def fc35MMono := (ai (ai (ai (ai sz3 (ai ag3 zv3)) (ai (ai un3 sz4) (ai ag4 zv4))) (ai (ai un4 (ai sz26 ag26)) (ai (ai zv26 sb26) (ai un26 el26)))) (ai (ai (ai ap26 (ai sz55 ag55)) (ai (ai zv55 sb55) (ai un55 el55))) (ai (ai (ai ap55 sz57) (ai ag57 zv57)) (ai (ai fl57_0 fl57_1) (ai pl57 okf67)))))
theorem heldMonoS_of (xs : List Mono) (k : Int) (hk : 0 ≤ k ∧ k + (cnL (xs.flatMap eMono) : Int) ≤ 2^60) : FnS Try.prog 35 [] [.c (.im (.sl xs.length (mkL mT k (xs.flatMap eMono)))), iT k] [] (iT (k + (cnL (xs.flatMap eMono) : Int))) := by
  refine FnS.go [0, 1, 4, 5, 9, 18, 29] [] Try.func35 rfl (fun kt kz => ?_)
  have fcx := fc35MMono
  simp only [Try.f35]
  have hx : xs.length ≤ 2^60 := by have := cnL_len (E := eMono) (xs := xs); omega
  refine Run (cast_succ) ?_; with_reducible repeat' (first | exact True.intro | refine Lf.mk ?_ ?_ | intro hb)
  refine Trn (α := Nat) [1, 4, 5, 6, 7, 8, 9, 10, 11, 12, 13, 14, 15, 16, 17, 18, 19, 20, 21, 22, 23, 24, 25, 26, 27, 28, 29] (fun i => [(5, iT i), (1, iT (k + (cnT eMono xs i : Int)))]) (fun i => []) (fun i => i ≤ xs.length) (fun i => xs.length - i) (0) (Nat.zero_le _) ((ai (cnT_zero (E := eMono) (xs := xs)) (ai @Int.ofNat_zero @Int.add_zero))) ?_; intro lx hI; obtain i := lx; (try simp only [List.nil_append, List.cons_append] at hI ⊢)
  by_cases hlt : lx < xs.length
  · have hp := pt_mk mT (E := eMono) (k := k) hlt
    simp only [eMono_eta, slI, mkL_i, mkL_s, mkL_l, mkL_n, List.cons_append, List.nil_append] at hp
    have hc := cnT_le (E := eMono) (xs := xs) (i := lx + 1)
    have ecn : cnT eMono xs (lx + 1) = cnT eMono xs lx + (1 + cnL (xs[lx].vars.flatMap eS)) := by rw [cnT_succ hlt]; (simp only [eMono_eta, slI, cnL_i, cnL_s, cnL_l, cnL_n]) <;> omega
    have e : k + (cnT eMono xs lx : Int) + 1 + (cnL (xs[lx].vars.flatMap eS) : Int) = k + (cnT eMono xs (lx + 1) : Int) := by omega
    refine Run ((ai @hp @hlt)) ?_; with_reducible repeat' (first | exact True.intro | refine Lf.mk ?_ ?_ | intro hb)
    refine Cal ((ai @hp @hlt)) (heldStringS_ok (xs[lx].vars) (k + (cnT eMono xs lx : Int) + 1) ⟨by omega, by omega⟩) ?_
    have hn1 : ((k + (cnT eMono xs lx : Int) + 1 + (cnL (xs[lx].vars.flatMap eS) : Int)) < 0) = False := eq_false (by omega)
    refine Run ((ai @hp (ai @hlt @hn1))) ?_; with_reducible repeat' (first | exact True.intro | refine Lf.mk ?_ ?_ | intro hb)
    exact Nxt (@e) (lx + 1) (by omega) (by first | omega | (simp; omega))
  · have hge : xs.length ≤ lx := by omega
    have e1 := cnT_all (E := eMono) hge
    refine Run ((ai @e1 @hlt)) ?_; with_reducible repeat' (first | exact True.intro | refine Lf.mk ?_ ?_ | intro hb)

theorem heldMonoS_ok (xs : List Mono) (k : Int) (hk : 0 ≤ k ∧ k + (cnL (xs.flatMap eMono) : Int) ≤ 2^60) : FnP Try.prog 35 [.c (.im (.sl xs.length (mkL mT k (xs.flatMap eMono)))), iT k] (iT (k + (cnL (xs.flatMap eMono) : Int))) := heldMonoS_of xs k hk

end Go.VC.T
/- Data (Poly): how they are marked. -/
namespace Go.VC.T
open Go Go.VC Go.Proofs Go.VC.F
set_option linter.unusedSimpArgs false
set_option linter.unusedVariables false
set_option linter.defProp false
set_option maxRecDepth 100000
set_option maxHeartbeats 2000000
def fc11MPoly := (ai (ai (ai (ai sz3 ag3) (ai zv3 un3)) (ai (ai sz26 ag26) (ai zv26 sb26))) (ai (ai (ai un26 el26) (ai ap26 sz28)) (ai (ai ag28 zv28) (ai fl28_0 (ai pl28 okf34)))))
theorem markPoly_w (t : List Mono) (k : Int) (hk : 0 ≤ k ∧ k + (cnL (t.flatMap eMono) : Int) ≤ 2^60) : FnS Try.prog 11 [(1, .row t.length (t.flatMap eMono))] [.ag [.os 1 t.length], iT k] [(1, .row t.length (mkL mT (k) (t.flatMap eMono)))] (iT (k + (cnL (t.flatMap eMono) : Int))) := by
  refine FnS.go [0, 1, 2, 4] [] Try.func11 rfl (fun kt kz => ?_)
  have fcx := fc11MPoly
  simp only [Try.f11]
  refine Run (cast_succ) ?_; with_reducible repeat' (first | exact True.intro | refine Lf.mk ?_ ?_ | intro hb)
  refine CalO (cast_succ) (markMonoS_q t (k) ⟨by omega, by omega⟩ 1) ?_
  refine Run (cast_succ) ?_; with_reducible repeat' (first | exact True.intro | refine Lf.mk ?_ ?_ | intro hb)

theorem markPoly_q (t : List Mono) (k : Int) (hk : 0 ≤ k ∧ k + (cnL (t.flatMap eMono) : Int) ≤ 2^60) (q0 : Nat) (hq : [q0].Nodup) : FnS Try.prog 11 [(q0, .row t.length (t.flatMap eMono))] [.ag [.os q0 t.length], iT k] [(q0, .row t.length (mkL mT (k) (t.flatMap eMono)))] (iT (k + (cnL (t.flatMap eMono) : Int))) := by
  obtain ⟨p, hp⟩ := pml [1] [q0] (by decide) hq rfl
  simp only [List.map_cons, List.map_nil, List.cons.injEq, and_true] at hp
  refine ((markPoly_w t k hk).renA p).asA ?_ ?_ ?_ ?_ <;> simp [renS, Ob.ren, TV.ren, renL, Cell.ren, hp]
def hPoly (k : Int) (t : List Mono) : List IV := [.sl t.length (mkL mT (k) (t.flatMap eMono))]
def fc12MPoly := (ai (ai (ai (ai sz3 ag3) (ai zv3 (ai un3 sz4))) (ai (ai ag4 zv4) (ai un4 (ai sz26 ag26)))) (ai (ai (ai zv26 sb26) (ai un26 (ai el26 ap26))) (ai (ai sz28 (ai ag28 zv28)) (ai fl28_0 (ai pl28 okf35)))))
theorem heldPoly_ok (t : List Mono) (k : Int) (hk : 0 ≤ k ∧ k + (cnL (t.flatMap eMono) : Int) ≤ 2^60) : FnS Try.prog 12 [] [agT (hPoly k t), iT k] [] (iT (k + (cnL (t.flatMap eMono) : Int))) := by
  refine FnS.go [0, 1, 2, 4, 10] [] Try.func12 rfl (fun kt kz => ?_)
  have fcx := fc12MPoly
  simp only [Try.f12]
  refine Run (@hPoly.eq_1) ?_; with_reducible repeat' (first | exact True.intro | refine Lf.mk ?_ ?_ | intro hb)
  refine Cal (@hPoly.eq_1) (heldMonoS_ok t (k) ⟨by omega, by omega⟩) ?_
  have hn1 : ((k + (cnL (t.flatMap eMono) : Int)) < 0) = False := eq_false (by omega)
  refine Run ((ai @hPoly.eq_1 @hn1)) ?_; with_reducible repeat' (first | exact True.intro | refine Lf.mk ?_ ?_ | intro hb)


end Go.VC.T
/- Polynomials of a token, of a number. -/
namespace Go.VC
def tokP (s : ByteArray) : List Mono := if s = ⟨#[]⟩ then [] else [⟨1, [s]⟩]
def numP (n : Int) : List Mono := if n < 1 ∨ 1000000 < n then [] else [⟨n, []⟩]
end Go.VC
namespace Go.VC.T
open Go Go.VC Go.Proofs Go.VC.F
set_option linter.unusedSimpArgs false
set_option linter.unusedVariables false
set_option linter.defProp false
set_option maxRecDepth 100000
set_option maxHeartbeats 2000000
def fc38A30 := (ai (ai (ai sz3 ag3) (ai zv3 un3)) (ai (ai sz4 ag4) (ai zv4 un4)))
theorem l1In_ok (x lo hi : Int) : FnS Try.prog 38 [] [iT x, iT lo, iT hi] [] (bT (decide (lo ≤ x ∧ x ≤ hi))) := by
  refine FnS.go [0, 1, 2, 6] [] Try.func38 rfl (fun kt kz => ?_)
  have fcx := fc38A30
  simp only [Try.f38]
  by_cases h1 : lo ≤ x
  · have e : decide (lo ≤ x ∧ x ≤ hi) = decide (x ≤ hi) := decide_eq_decide.2 (by omega)
    refine Run ((ai @h1 @e)) ?_; with_reducible repeat' (first | exact True.intro | refine Lf.mk ?_ ?_ | intro hb)
  · have e : decide (False ∧ x ≤ hi) = false := decide_eq_false (fun h => h.1)
    refine Run ((ai @h1 @e)) ?_; with_reducible repeat' (first | exact True.intro | refine Lf.mk ?_ ?_ | intro hb)

end Go.VC.T
/- Polynomials that are right. -/
namespace Go.VC
open Go
def MonoOk (m : Mono) : Prop := (1 ≤ m.coef ∧ m.coef ≤ 1000000) ∧ m.vars.length ≤ 8 ∧ m.vars.any (fun x => decide (x = ⟨#[]⟩)) = false ∧ SortedS m.vars
noncomputable instance (m : Mono) : Decidable (MonoOk m) := Classical.propDecidable _
/-- Up to place i. -/
def PolyTo (l : List Mono) (i : Nat) : Prop := (∀ m ∈ l.take i, MonoOk m) ∧ ∀ k, (h : k + 1 < l.length) → k + 1 < i → cmpL (l[k]'(by omega)).vars l[k + 1].vars < 0
def PolyOk (l : List Mono) : Prop := PolyTo l l.length ∧ l.length ≤ 200
noncomputable instance (l : List Mono) : Decidable (PolyOk l) := Classical.propDecidable _
theorem polyTo_zero {l : List Mono} : PolyTo l 0 := ⟨fun m hm => by simp at hm, fun k h hk => by omega⟩
theorem polyTo_succ {l : List Mono} {i : Nat} (h : i < l.length) (ht : PolyTo l i) (hm : MonoOk l[i]) (hc : 0 < i → cmpL (l[i - 1]'(by omega)).vars l[i].vars < 0) : PolyTo l (i + 1) := by
  refine ⟨fun m hm' => ?_, fun k hk hki => ?_⟩
  · rw [take_at h, List.mem_append] at hm'
    rcases hm' with h1 | h1
    · exact ht.1 m h1
    · rw [List.mem_singleton] at h1; subst h1; exact hm
  · by_cases e : k + 1 < i
    · exact ht.2 k hk e
    · have e : i = k + 1 := by omega
      subst e
      exact hc (by omega)
theorem polyTo_at {l : List Mono} {i : Nat} (h : i < l.length) (ht : PolyTo l l.length) : MonoOk l[i] ∧ (0 < i → cmpL (l[i - 1]'(by omega)).vars l[i].vars < 0) := by
  refine ⟨ht.1 _ (by rw [List.take_length]; exact List.getElem_mem h), fun hi => ?_⟩
  have h1 := ht.2 (i - 1) (by omega) (by omega)
  have e : i - 1 + 1 = i := by omega
  simp only [e] at h1
  exact h1
theorem polyTo_all {l : List Mono} {i : Nat} (h : l.length ≤ i) (ht : PolyTo l i) : PolyTo l l.length := by
  refine ⟨fun m hm => ht.1 m (by rw [List.take_length] at hm; rw [List.take_of_length_le h]; exact hm), fun k hk hki => ht.2 k hk (by omega)⟩
end Go.VC
namespace Go.VC.T
open Go Go.VC Go.Proofs Go.VC.F
set_option linter.unusedSimpArgs false
set_option linter.unusedVariables false
set_option linter.defProp false
set_option maxRecDepth 100000
set_option maxHeartbeats 2000000
def fc58A24 := (ai (ai (ai (ai sz3 (ai ag3 zv3)) (ai un3 (ai sz4 ag4))) (ai (ai zv4 (ai un4 sz9)) (ai (ai ag9 zv9) (ai un9 sz55)))) (ai (ai (ai ag55 (ai zv55 sb55)) (ai (ai un55 el55) (ai ap55 sz57))) (ai (ai ag57 (ai zv57 fl57_0)) (ai (ai fl57_1 pl57) (ai okf90 okf91)))))
theorem monoOk_ok (m : Mono) (h : okMono (2^20) m) : FnS Try.prog 58 [] [agT (eMono m)] [] (bT (decide (MonoOk m))) := by
  refine FnS.go [0, 1, 2, 21] [] Try.func58 rfl (fun kt kz => ?_)
  have fcx := fc58A24
  simp only [Try.f58]
  have hv := (okMono_iff.1 h).2.1
  by_cases h1 : m.coef < 1
  · refine Run ((ai @eMono_eta @h1)) ?_; with_reducible repeat' (first | exact True.intro | refine Lf.mk ?_ ?_ | intro hb)
    rw [decide_eq_false fun hm => by have := hm.1; omega]
  · by_cases h2 : 1000000 < m.coef
    · refine Run ((ai @eMono_eta (ai @h1 @h2))) ?_; with_reducible repeat' (first | exact True.intro | refine Lf.mk ?_ ?_ | intro hb)
      rw [decide_eq_false fun hm => by have := hm.1; omega]
    · by_cases h3 : 8 < m.vars.length
      · have h3z : (8 : Int) < (m.vars.length : Int) := by omega
        refine Run ((ai (ai @eMono_eta @h1) (ai @h2 @h3z))) ?_; with_reducible repeat' (first | exact True.intro | refine Lf.mk ?_ ?_ | intro hb)
        rw [decide_eq_false fun hm => by have := hm.2.1; omega]
      · have h3z : ¬ (8 : Int) < (m.vars.length : Int) := by omega
        refine Run ((ai (ai @eMono_eta @h1) (ai @h2 @h3z))) ?_; with_reducible repeat' (first | exact True.intro | refine Lf.mk ?_ ?_ | intro hb)
        refine Cal (cast_succ) (slHasS_ok m.vars ⟨#[]⟩ (by omega)) ?_
        refine Run (@eMono_eta) ?_; with_reducible repeat' (first | exact True.intro | refine Lf.mk ?_ ?_ | intro hb)
        · rw [decide_eq_false fun hm => by have := hm.2.2.1; rw [hb] at this; cases this]
        · refine Cal (cast_succ) (slSortedS_ok m.vars (by omega)) ?_
          refine Run (cast_succ) ?_; with_reducible repeat' (first | exact True.intro | refine Lf.mk ?_ ?_ | intro hb)
          rw [decide_eq_decide.2 (show SortedS m.vars ↔ MonoOk m from ⟨fun hs => ⟨⟨by omega, by omega⟩, by omega, hb, hs⟩, fun hm => hm.2.2.2⟩)]
def fc29A24 := (ai (ai (ai (ai (ai sz3 ag3) (ai zv3 un3)) (ai (ai sz4 ag4) (ai zv4 un4))) (ai (ai (ai sz26 ag26) (ai zv26 sb26)) (ai (ai un26 el26) (ai ap26 (ai sz28 ag28))))) (ai (ai (ai (ai zv28 fl28_0) (ai pl28 sz55)) (ai (ai ag55 zv55) (ai sb55 (ai un55 el55)))) (ai (ai (ai ap55 sz57) (ai ag57 zv57)) (ai (ai fl57_0 fl57_1) (ai pl57 (ai okf58 okf59))))))
theorem implIsPoly_ok (l : List Mono) (h : okPoly (2^20) l) : FnS Try.prog 29 [] [agT (ePoly l)] [] (bT (decide (PolyOk l))) := by
  refine FnS.go [0, 1, 2, 3, 4, 6, 7, 8, 9, 32] [] Try.func29 rfl (fun kt kz => ?_)
  have fcx := fc29A24
  simp only [Try.f29]
  have ho := okPoly_iff.1 h
  have hl := ho.1
  refine Run (@ePoly_eta) ?_; with_reducible repeat' (first | exact True.intro | refine Lf.mk ?_ ?_ | intro hb)
  refine Trn (α := Nat) [2, 3, 4, 8, 9, 10, 11, 12, 13, 14, 15, 16, 17, 18, 19, 20, 21, 22, 23, 24, 25, 26, 27, 28, 29, 30, 31, 32, 33] (fun i => [(8, iT i)]) (fun i => [(2, .box 28 ((ePoly l).map .im))]) (fun i => i ≤ l.length ∧ PolyTo l i) (fun i => l.length - i) (0) (⟨Nat.zero_le _, polyTo_zero⟩) (@ePoly_eta) ?_; intro lx hI; obtain i := lx; (try simp only [List.nil_append, List.cons_append] at hI ⊢)
  by_cases hlt : lx < l.length
  · have hm := okMono_iff.1 (ho.2 _ (List.getElem_mem hlt))
    have hvl := hm.2.1
    refine Run ((ai @ePoly_eta (ai @eMono_eta @hlt))) ?_; with_reducible repeat' (first | exact True.intro | refine Lf.mk ?_ ?_ | intro hb)
    refine Cal (@eMono_eta) (monoOk_ok l[lx] (ho.2 _ (List.getElem_mem hlt))) ?_
    by_cases hmo : MonoOk l[lx]
    · have hmd := decide_eq_true hmo
      by_cases hz : 0 < lx
      · have hzi : (0 : Int) < (lx : Int) := by omega
        have hl1 : lx - 1 < l.length := by omega
        have hv1 := (okMono_iff.1 (ho.2 _ (List.getElem_mem hl1))).2.1
        refine Run ((ai (ai @ePoly_eta @eMono_eta) (ai @hmd @hzi))) ?_; with_reducible repeat' (first | exact True.intro | refine Lf.mk ?_ ?_ | intro hb)
        refine Cal (@eMono_eta) (slicesCompare_ok l[lx - 1].vars l[lx].vars (by omega)) ?_
        refine Run ((ai @ePoly_eta @eMono_eta)) ?_; with_reducible repeat' (first | exact True.intro | refine Lf.mk ?_ ?_ | intro hb)
        · rw [decide_eq_false fun h => by have := (polyTo_at hlt h.1).2 hz; omega]
        · exact Nxt (@ePoly_eta) (lx + 1) (⟨by omega, polyTo_succ hlt hI.2 hmo fun _ => by omega⟩) (by first | omega | (simp; omega))
      · have hzi : ¬ (0 : Int) < (lx : Int) := by omega
        refine Run ((ai (ai @ePoly_eta @eMono_eta) (ai @hmd @hzi))) ?_; with_reducible repeat' (first | exact True.intro | refine Lf.mk ?_ ?_ | intro hb)
        exact Nxt (@ePoly_eta) (lx + 1) (⟨by omega, polyTo_succ hlt hI.2 hmo fun h => absurd h hz⟩) (by first | omega | (simp; omega))
    · have hmd := decide_eq_false hmo
      refine Run ((ai @ePoly_eta (ai @eMono_eta @hmd))) ?_; with_reducible repeat' (first | exact True.intro | refine Lf.mk ?_ ?_ | intro hb)
      rw [decide_eq_false fun h => hmo (polyTo_at hlt h.1).1]
  · have ha := polyTo_all (by omega) hI.2
    have e : decide ((l.length : Int) ≤ 200) = decide (PolyOk l) := decide_eq_decide.2 ⟨fun h => ⟨ha, by omega⟩, fun h => by have := h.2; omega⟩
    refine Run ((ai @ePoly_eta (ai @hlt @e))) ?_; with_reducible repeat' (first | exact True.intro | refine Lf.mk ?_ ?_ | intro hb)
def fc55A24 := (ai (ai (ai (ai sz3 (ai ag3 zv3)) (ai un3 (ai sz4 ag4))) (ai (ai zv4 (ai un4 sz9)) (ai (ai ag9 zv9) (ai un9 sz55)))) (ai (ai (ai ag55 (ai zv55 sb55)) (ai un55 (ai el55 ap55))) (ai (ai sz57 (ai ag57 zv57)) (ai (ai fl57_0 fl57_1) (ai pl57 okf38)))))
theorem l29Mono_ok (m : Mono) (h : okMono (2^20) m) : FnS Try.prog 55 [] [agT (eMono m)] [] (bT (decide (MonoOk m))) := by
  refine FnS.go [0, 1, 2, 3, 8, 34] [] Try.func55 rfl (fun kt kz => ?_)
  have fcx := fc55A24
  simp only [Try.f55]
  have hv := (okMono_iff.1 h).2.1
  refine Run (@eMono_eta) ?_; with_reducible repeat' (first | exact True.intro | refine Lf.mk ?_ ?_ | intro hb)
  refine Trn (α := Nat) [2, 3, 4, 5, 6, 7, 8, 9, 10, 11, 12, 13, 14, 15, 16, 17, 18, 19, 20, 21, 22, 23, 24, 25, 26, 27, 28, 29, 30, 31, 32, 33, 34] (fun i => [(3, iT i)]) (fun i => [(2, .box 57 ((eMono m).map .im))]) (fun i => i ≤ m.vars.length ∧ (m.vars.take i).any (fun x => decide (x = ⟨#[]⟩)) = false ∧ ∀ k, (h : k + 1 < m.vars.length) → k + 1 < i → sLt m.vars[k + 1] (m.vars[k]'(by omega)) = false) (fun i => m.vars.length - i) (0) (⟨Nat.zero_le _, rfl, fun k h hk => by omega⟩) (@eMono_eta) ?_; intro lx hI; obtain i := lx; (try simp only [List.nil_append, List.cons_append] at hI ⊢)
  by_cases hlt : lx < m.vars.length
  · have hstep : ∀ (h1 : ¬ m.vars[lx] = ⟨#[]⟩) (h2 : 0 < lx → sLt m.vars[lx] (m.vars[lx - 1]'(by omega)) = false), (m.vars.take (lx + 1)).any (fun x => decide (x = ⟨#[]⟩)) = false ∧ ∀ k, (h : k + 1 < m.vars.length) → k + 1 < lx + 1 → sLt m.vars[k + 1] (m.vars[k]'(by omega)) = false := fun h1 h2 => by
      refine ⟨any_take hlt hI.2.1 (by simpa using h1), fun k hk hki => ?_⟩
      by_cases e : k + 1 < lx
      · exact hI.2.2 k hk e
      · have e : lx = k + 1 := by omega
        subst e
        exact h2 (by omega)
    by_cases he : m.vars[lx] = ⟨#[]⟩
    · refine Run ((ai (ai @eMono_eta @hlt) (ai @eS.eq_1 @he))) ?_; with_reducible repeat' (first | exact True.intro | refine Lf.mk ?_ ?_ | intro hb)
      rw [decide_eq_false fun hm => by have := any_at (p := fun x => decide (x = ⟨#[]⟩)) hlt (by simpa using he); rw [hm.2.2.1] at this; cases this]
    · by_cases hz : 0 < lx
      · have hzi : (0 : Int) < (lx : Int) := by omega
        have hl1 : lx - 1 < m.vars.length := by omega
        refine Run ((ai (ai @eMono_eta @hlt) (ai @eS.eq_1 (ai @he @hzi)))) ?_; with_reducible repeat' (first | exact True.intro | refine Lf.mk ?_ ?_ | intro hb)
        · rw [decide_eq_false fun hm => by
            have h1 := hm.2.2.2 (lx - 1) (by omega)
            have e : lx - 1 + 1 = lx := by omega
            simp only [e] at h1
            rw [sLt_tri hb.1 hb.2] at h1; cases h1]
        · exact Nxt (@eMono_eta) (lx + 1) (⟨by omega, hstep he fun _ => by
            rcases hb with h | h
            · exact sLt_asymm h
            · rw [h]; exact sLt_irrefl _⟩) (by first | omega | (simp; omega))
      · have hzi : ¬ (0 : Int) < (lx : Int) := by omega
        refine Run ((ai (ai @eMono_eta @hlt) (ai @eS.eq_1 (ai @he @hzi)))) ?_; with_reducible repeat' (first | exact True.intro | refine Lf.mk ?_ ?_ | intro hb)
        exact Nxt (@eMono_eta) (lx + 1) (⟨by omega, hstep he fun h => absurd h hz⟩) (by first | omega | (simp; omega))
  · have ha := any_all (by omega) hI.2.1
    have hs : SortedS m.vars := fun k hk => hI.2.2 k hk (by omega)
    have e : decide (MonoOk m) = decide ((1 ≤ m.coef ∧ m.coef ≤ 1000000) ∧ m.vars.length ≤ 8) := decide_eq_decide.2 ⟨fun h => ⟨h.1, h.2.1⟩, fun h => ⟨h.1, h.2, ha, hs⟩⟩
    rw [e]
    refine Run ((ai @eMono_eta @hlt)) ?_; with_reducible repeat' (first | exact True.intro | refine Lf.mk ?_ ?_ | intro hb)
    refine Cal (cast_succ) (l1In_ok m.coef 1 1000000) ?_
    refine Run (@eMono_eta) ?_; with_reducible repeat' (first | exact True.intro | refine Lf.mk ?_ ?_ | intro hb)
    · have e2 : decide ((m.vars.length : Int) ≤ 8) = decide (m.vars.length ≤ 8) := decide_eq_decide.2 (by omega)
      rw [e2]
    · rw [decide_eq_false fun h => h.1]
def fc25A24 := (ai (ai (ai (ai (ai sz3 ag3) (ai zv3 un3)) (ai (ai sz4 ag4) (ai zv4 un4))) (ai (ai (ai sz26 ag26) (ai zv26 sb26)) (ai (ai un26 el26) (ai ap26 (ai sz28 ag28))))) (ai (ai (ai (ai zv28 fl28_0) (ai pl28 sz55)) (ai (ai ag55 zv55) (ai sb55 (ai un55 el55)))) (ai (ai (ai ap55 sz57) (ai ag57 zv57)) (ai (ai fl57_0 fl57_1) (ai pl57 (ai okf55 okf56))))))
theorem specIsPoly_ok (l : List Mono) (h : okPoly (2^20) l) : FnS Try.prog 25 [] [agT (ePoly l)] [] (bT (decide (PolyOk l))) := by
  refine FnS.go [0, 1, 2, 3, 8, 38] [] Try.func25 rfl (fun kt kz => ?_)
  have fcx := fc25A24
  simp only [Try.f25]
  have ho := okPoly_iff.1 h
  have hl := ho.1
  refine Run (@ePoly_eta) ?_; with_reducible repeat' (first | exact True.intro | refine Lf.mk ?_ ?_ | intro hb)
  refine Trn (α := Nat) [2, 3, 4, 5, 6, 7, 8, 9, 10, 11, 12, 13, 14, 15, 16, 17, 18, 19, 20, 21, 22, 23, 24, 25, 26, 27, 28, 29, 30, 31, 32, 33, 34, 35, 36, 37, 38] (fun i => [(3, iT i)]) (fun i => [(2, .box 28 ((ePoly l).map .im))]) (fun i => i ≤ l.length ∧ PolyTo l i) (fun i => l.length - i) (0) (⟨Nat.zero_le _, polyTo_zero⟩) (@ePoly_eta) ?_; intro lx hI; obtain i := lx; (try simp only [List.nil_append, List.cons_append] at hI ⊢)
  by_cases hlt : lx < l.length
  · have hm := okMono_iff.1 (ho.2 _ (List.getElem_mem hlt))
    have hvl := hm.2.1
    refine Run ((ai @ePoly_eta (ai @eMono_eta @hlt))) ?_; with_reducible repeat' (first | exact True.intro | refine Lf.mk ?_ ?_ | intro hb)
    refine Cal (@eMono_eta) (l29Mono_ok l[lx] (ho.2 _ (List.getElem_mem hlt))) ?_
    by_cases hmo : MonoOk l[lx]
    · have hmd := decide_eq_true hmo
      by_cases hz : 0 < lx
      · have hzi : (0 : Int) < (lx : Int) := by omega
        have hl1 : lx - 1 < l.length := by omega
        have hv1 := (okMono_iff.1 (ho.2 _ (List.getElem_mem hl1))).2.1
        refine Run ((ai (ai @ePoly_eta @eMono_eta) (ai @hmd @hzi))) ?_; with_reducible repeat' (first | exact True.intro | refine Lf.mk ?_ ?_ | intro hb)
        refine Cal (@eMono_eta) (l5Labels_ok l[lx - 1].vars l[lx].vars (by omega) (by omega)) ?_
        refine Run ((ai @ePoly_eta @eMono_eta)) ?_; with_reducible repeat' (first | exact True.intro | refine Lf.mk ?_ ?_ | intro hb)
        · rw [decide_eq_false fun h => by have := (polyTo_at hlt h.1).2 hz; omega]
        · exact Nxt (@ePoly_eta) (lx + 1) (⟨by omega, polyTo_succ hlt hI.2 hmo fun _ => by omega⟩) (by first | omega | (simp; omega))
      · have hzi : ¬ (0 : Int) < (lx : Int) := by omega
        refine Run ((ai (ai @ePoly_eta @eMono_eta) (ai @hmd @hzi))) ?_; with_reducible repeat' (first | exact True.intro | refine Lf.mk ?_ ?_ | intro hb)
        exact Nxt (@ePoly_eta) (lx + 1) (⟨by omega, polyTo_succ hlt hI.2 hmo fun h => absurd h hz⟩) (by first | omega | (simp; omega))
    · have hmd := decide_eq_false hmo
      refine Run ((ai @ePoly_eta (ai @eMono_eta @hmd))) ?_; with_reducible repeat' (first | exact True.intro | refine Lf.mk ?_ ?_ | intro hb)
      rw [decide_eq_false fun h => hmo (polyTo_at hlt h.1).1]
  · have ha := polyTo_all (by omega) hI.2
    have e : decide ((l.length : Int) ≤ 200) = decide (PolyOk l) := decide_eq_decide.2 ⟨fun h => ⟨ha, by omega⟩, fun h => by have := h.2; omega⟩
    refine Run ((ai @ePoly_eta (ai @hlt @e))) ?_; with_reducible repeat' (first | exact True.intro | refine Lf.mk ?_ ?_ | intro hb)

end Go.VC.T
/- Sums of products: the order of lists of texts, a product put into an ordered sum: no program in sight. -/
set_option linter.unusedSimpArgs false
set_option linter.unusedVariables false
namespace Go.VC
open Go Go.RowKit
theorem bl_trans : ∀ (a b c : List UInt8), Op.bytesLess a b = true → Op.bytesLess b c = true → Op.bytesLess a c = true := by
  intro a
  induction a with
  | nil =>
    intro b c h1 h2
    cases c with
    | nil => cases b <;> simp [Op.bytesLess] at h2
    | cons z c => rfl
  | cons x a ih =>
    intro b c h1 h2
    cases b with
    | nil => simp [Op.bytesLess] at h1
    | cons y b =>
      cases c with
      | nil => simp [Op.bytesLess] at h2
      | cons z c =>
        simp only [Op.bytesLess, Bool.or_eq_true, decide_eq_true_eq, Bool.and_eq_true, beq_iff_eq] at *
        rcases h1 with h1 | ⟨rfl, h1⟩
        · rcases h2 with h2 | ⟨rfl, h2⟩
          · exact .inl (UInt8.lt_trans h1 h2)
          · exact .inl h1
        · rcases h2 with h2 | ⟨rfl, h2⟩
          · exact .inl h2
          · exact .inr ⟨rfl, ih b c h1 h2⟩
theorem sLt_trans {a b c : ByteArray} (h : sLt a b = true) (h2 : sLt b c = true) : sLt a c = true := bl_trans _ _ _ h h2
theorem cmpS_neg {a b : ByteArray} : cmpS a b < 0 ↔ sLt a b = true := by
  unfold cmpS
  cases sLt a b with
  | true => simp
  | false => by_cases h : a = b <;> simp [h]
theorem cmpS_pos {a b : ByteArray} : 0 < cmpS a b ↔ sLt b a = true := by
  unfold cmpS
  cases h : sLt a b with
  | true => simp [sLt_asymm h]
  | false =>
    by_cases e : a = b
    · subst e; simp [sLt_irrefl]
    · simp [e, sLt_tri h e]
theorem cmpL_flip : ∀ {a b : List ByteArray}, (cmpL a b < 0 ↔ 0 < cmpL b a)
  | [], [] => by simp [cmpL]
  | [], _ :: _ => by simp [cmpL]
  | _ :: _, [] => by simp [cmpL]
  | x :: a, y :: b => by
    rw [cmpL, cmpL]
    by_cases e : x = y
    · subst e; rw [if_pos rfl, if_pos rfl]; exact cmpL_flip
    · rw [if_neg e, if_neg (Ne.symm e), cmpS_neg, cmpS_pos]
theorem cmpL_trans : ∀ {a b c : List ByteArray}, cmpL a b < 0 → cmpL b c < 0 → cmpL a c < 0
  | [], [], c, h, _ => by simp [cmpL] at h
  | [], _ :: _, [], _, h => by simp [cmpL] at h
  | [], _ :: _, _ :: _, _, _ => by simp [cmpL]
  | _ :: _, [], _, h, _ => by simp [cmpL] at h
  | _ :: _, _ :: _, [], _, h => by simp [cmpL] at h
  | x :: a, y :: b, z :: c, h1, h2 => by
    rw [cmpL] at h1 h2 ⊢
    by_cases e1 : x = y
    · subst e1
      rw [if_pos rfl] at h1
      by_cases e2 : x = z
      · subst e2
        rw [if_pos rfl] at h2 ⊢
        exact cmpL_trans h1 h2
      · rw [if_neg e2] at h2 ⊢; exact h2
    · rw [if_neg e1] at h1
      by_cases e2 : y = z
      · subst e2
        rw [if_neg e1]; exact h1
      · rw [if_neg e2] at h2
        have h3 := sLt_trans (cmpS_neg.1 h1) (cmpS_neg.1 h2)
        have e3 : x ≠ z := fun e => by subst e; rw [sLt_irrefl] at h3; cases h3
        rw [if_neg e3]; exact cmpS_neg.2 h3
/-- Ascending, without doubles. -/
def AscM (l : List Mono) : Prop := ∀ i j, (h : j < l.length) → (hi : i < j) → cmpL (l[i]'(by omega)).vars l[j].vars < 0
/-- Where a product belongs. -/
def posM (l : List Mono) (v : List ByteArray) : Nat := (l.takeWhile fun m => decide (cmpL m.vars v < 0)).length
theorem posM_le {l : List Mono} {v : List ByteArray} : posM l v ≤ l.length := by
  unfold posM
  induction l with
  | nil => simp
  | cons a r ih => rw [List.takeWhile_cons]; split <;> simp; exact ih
theorem posM_lt {l : List Mono} {v : List ByteArray} {i : Nat} (h : i < posM l v) : ∃ hl : i < l.length, cmpL l[i].vars v < 0 := by
  unfold posM at h
  induction l generalizing i with
  | nil => simp at h
  | cons a r ih =>
    rw [List.takeWhile_cons] at h
    split at h
    · rename_i hd
      cases i with
      | zero => exact ⟨by simp, of_decide_eq_true hd⟩
      | succ i =>
        obtain ⟨h1, h2⟩ := ih (i := i) (by simp at h; exact h)
        exact ⟨by simp; exact h1, by simpa using h2⟩
    · simp at h
theorem posM_at {l : List Mono} {v : List ByteArray} (h : posM l v < l.length) : ¬ cmpL l[posM l v].vars v < 0 := by
  unfold posM at *
  induction l with
  | nil => simp at h
  | cons a r ih =>
    by_cases hd : cmpL a.vars v < 0
    · have e : ((a :: r).takeWhile fun m => decide (cmpL m.vars v < 0)).length = (r.takeWhile fun m => decide (cmpL m.vars v < 0)).length + 1 := by rw [List.takeWhile_cons, if_pos (decide_eq_true hd)]; rfl
      simp only [e] at h ⊢
      simp only [List.getElem_cons_succ]
      exact ih (by simp at h; exact h)
    · have e : ((a :: r).takeWhile fun m => decide (cmpL m.vars v < 0)).length = 0 := by rw [List.takeWhile_cons, if_neg (by simp [hd])]; rfl
      simp only [e, List.getElem_cons_zero]
      exact hd
theorem posM_eq {l : List Mono} {v : List ByteArray} {k : Nat} (h1 : k ≤ l.length) (h2 : ∀ i, i < k → (hl : i < l.length) → cmpL l[i].vars v < 0) (h3 : (hl : k < l.length) → ¬ cmpL l[k].vars v < 0) : posM l v = k := by
  rcases Nat.lt_trichotomy (posM l v) k with h | h | h
  · exact absurd (h2 _ h (by omega)) (posM_at (by omega))
  · exact h
  · obtain ⟨hl, h4⟩ := posM_lt h
    exact absurd h4 (h3 hl)
/-- A product is put into an ordered sum. -/
def addM (l : List Mono) (x : Mono) : List Mono :=
  if h : posM l x.vars < l.length then (if cmpL l[posM l x.vars].vars x.vars = 0 then l.set (posM l x.vars) ⟨l[posM l x.vars].coef + x.coef, l[posM l x.vars].vars⟩ else l.take (posM l x.vars) ++ [x] ++ l.drop (posM l x.vars)) else l.take (posM l x.vars) ++ [x] ++ l.drop (posM l x.vars)
theorem addM_is {l : List Mono} {x : Mono} (h : posM l x.vars < l.length) (hc : cmpL l[posM l x.vars].vars x.vars = 0) : addM l x = l.set (posM l x.vars) ⟨l[posM l x.vars].coef + x.coef, l[posM l x.vars].vars⟩ := by unfold addM; rw [dif_pos h, if_pos hc]
theorem addM_no {l : List Mono} {x : Mono} (h : ∀ h : posM l x.vars < l.length, ¬ cmpL l[posM l x.vars].vars x.vars = 0) : addM l x = l.take (posM l x.vars) ++ [x] ++ l.drop (posM l x.vars) := by
  unfold addM
  split
  · rename_i h1; rw [if_neg (h h1)]
  · rfl
theorem ins_getE {l : List Mono} {x : Mono} {k j : Nat} (hk : k ≤ l.length) (hj : j < (l.take k ++ [x] ++ l.drop k).length) : (l.take k ++ [x] ++ l.drop k)[j] = if h1 : j < k then l[j]'(by omega) else if h2 : j = k then x else l[j - 1]'(by simp at hj; omega) := by
  have hta : (l.take k).length = k := by rw [List.length_take]; omega
  split
  · rename_i h1
    rw [List.getElem_append_left (by simp; omega), List.getElem_append_left (by omega), List.getElem_take]
  · rename_i h1
    split
    · rename_i h2
      subst h2
      rw [List.getElem_append_left (by simp; omega), List.getElem_append_right (by omega)]
      simp [hta]
    · rename_i h2
      rw [List.getElem_append_right (by simp; omega), List.getElem_drop]
      congr 1
      simp; omega
theorem addM_asc {l : List Mono} {x : Mono} (h : AscM l) : AscM (addM l x) := by
  by_cases hc : ∃ h : posM l x.vars < l.length, cmpL l[posM l x.vars].vars x.vars = 0
  · obtain ⟨hl, hc⟩ := hc
    rw [addM_is hl hc]
    intro i j hj hij
    simp only [List.length_set] at hj
    have h1 := h i j hj hij
    simp only [List.getElem_set]
    split <;> split <;> simp_all
  · have hc' : ∀ h : posM l x.vars < l.length, ¬ cmpL l[posM l x.vars].vars x.vars = 0 := fun h1 h2 => hc ⟨h1, h2⟩
    rw [addM_no hc']
    have hk := posM_le (l := l) (v := x.vars)
    have hup : ∀ j, posM l x.vars ≤ j → (hl : j < l.length) → cmpL x.vars l[j].vars < 0 := fun j hj hl => by
      have h1 : cmpL x.vars (l[posM l x.vars]'(by omega)).vars < 0 := cmpL_flip.2 (by have := posM_at (l := l) (v := x.vars) (by omega); have := hc' (by omega); omega)
      by_cases e : posM l x.vars = j
      · simp only [e] at h1; exact h1
      · exact cmpL_trans h1 (h _ j hl (by omega))
    intro i j hj hij
    have hj' : j < l.length + 1 := by simp at hj; omega
    rw [ins_getE hk hj, ins_getE hk (by omega)]
    by_cases h1 : j < posM l x.vars
    · rw [dif_pos h1, dif_pos (by omega)]; exact h i j (by omega) hij
    · rw [dif_neg h1]
      by_cases h2 : j = posM l x.vars
      · rw [dif_pos h2, dif_pos (by omega)]
        obtain ⟨_, h3⟩ := posM_lt (l := l) (v := x.vars) (i := i) (by omega)
        exact h3
      · rw [dif_neg h2]
        by_cases h3 : i < posM l x.vars
        · rw [dif_pos h3]; exact h i (j - 1) (by omega) (by omega)
        · rw [dif_neg h3]
          by_cases h4 : i = posM l x.vars
          · rw [dif_pos h4]; exact hup (j - 1) (by omega) (by omega)
          · rw [dif_neg h4]; exact h (i - 1) (j - 1) (by omega) (by omega)
theorem addM_len {l : List Mono} {x : Mono} : l.length ≤ (addM l x).length ∧ (addM l x).length ≤ l.length + 1 := by
  by_cases hc : ∃ h : posM l x.vars < l.length, cmpL l[posM l x.vars].vars x.vars = 0
  · obtain ⟨hl, hc⟩ := hc
    rw [addM_is hl hc]; simp
  · rw [addM_no fun h1 h2 => hc ⟨h1, h2⟩]
    have hk := posM_le (l := l) (v := x.vars)
    simp; omega
theorem addM_mem {l : List Mono} {x m : Mono} (h : m ∈ addM l x) : m ∈ l ∨ m = x ∨ ∃ y ∈ l, m = ⟨y.coef + x.coef, y.vars⟩ := by
  by_cases hc : ∃ h : posM l x.vars < l.length, cmpL l[posM l x.vars].vars x.vars = 0
  · obtain ⟨hl, hc⟩ := hc
    rw [addM_is hl hc] at h
    rcases List.mem_or_eq_of_mem_set h with h | h
    · exact .inl h
    · exact .inr (.inr ⟨_, List.getElem_mem hl, h⟩)
  · rw [addM_no fun h1 h2 => hc ⟨h1, h2⟩] at h
    simp only [List.mem_append, List.mem_singleton] at h
    rcases h with (h | h) | h
    · exact .inl (List.mem_of_mem_take h)
    · exact .inr (.inl h)
    · exact .inl (List.mem_of_mem_drop h)
/-- The sum of the coefficients bounds each. -/
def sumC (l : List Mono) : Int := (l.map Mono.coef).sum
/-- All products of a list, one after the other. -/
def addAll (l : List Mono) (xs : List Mono) : List Mono := xs.foldl addM l
theorem addAll_app {l xs ys : List Mono} : addAll l (xs ++ ys) = addAll (addAll l xs) ys := by simp [addAll]
theorem addAll_succ {l xs : List Mono} {i : Nat} (h : i < xs.length) : addAll l (xs.take (i + 1)) = addM (addAll l (xs.take i)) xs[i] := by
  rw [take_at h, addAll_app]; rfl
theorem addAll_asc {l xs : List Mono} (h : AscM l) : AscM (addAll l xs) := by
  unfold addAll
  induction xs generalizing l with
  | nil => exact h
  | cons a r ih => exact ih (addM_asc h)
theorem addAll_len {l xs : List Mono} : (addAll l xs).length ≤ l.length + xs.length := by
  unfold addAll
  induction xs generalizing l with
  | nil => simp
  | cons a r ih =>
    have := ih (l := addM l a)
    have := (addM_len (l := l) (x := a)).2
    simp only [List.foldl_cons, List.length_cons]; omega
/-- Bounds that stay. -/
theorem addAll_bnd {l xs : List Mono} {C : Nat} {Q : List ByteArray → Prop} (hx : ∀ m ∈ xs, (0 ≤ m.coef ∧ m.coef ≤ C) ∧ Q m.vars) (hl : ∀ m ∈ l, Q m.vars) {D : Nat} (hd : ∀ m ∈ l, 0 ≤ m.coef ∧ m.coef ≤ D) :
    ∀ m ∈ addAll l xs, (0 ≤ m.coef ∧ m.coef ≤ D + C * xs.length) ∧ Q m.vars := by
  unfold addAll
  induction xs generalizing l D with
  | nil => intro m hm; exact ⟨by have := hd m hm; simp; omega, hl m hm⟩
  | cons a r ih =>
    have ha := hx a List.mem_cons_self
    have h1 : ∀ m ∈ addM l a, Q m.vars := fun m hm => by
      rcases addM_mem hm with h | h | ⟨y, hy, h⟩
      · exact hl m h
      · subst h; exact ha.2
      · subst h; exact hl y hy
    have h2 : ∀ m ∈ addM l a, 0 ≤ m.coef ∧ m.coef ≤ (D + C : Nat) := fun m hm => by
      rcases addM_mem hm with h | h | ⟨y, hy, h⟩
      · have := hd m h; omega
      · subst h; omega
      · subst h; have := hd y hy; show 0 ≤ y.coef + a.coef ∧ y.coef + a.coef ≤ _; omega
    intro m hm
    obtain ⟨h3, h4⟩ := ih (l := addM l a) (fun m hm => hx m (List.mem_cons_of_mem _ hm)) h1 h2 m hm
    refine ⟨?_, h4⟩
    have e : (C : Int) * ((a :: r).length : Int) = C * (r.length : Int) + C := by rw [show ((a :: r).length : Int) = (r.length : Int) + 1 by simp, Int.mul_add, Int.mul_one]
    rw [e]
    have h5 := h3.2
    have e2 : ((D + C : Nat) : Int) = D + C := by omega
    rw [e2] at h5
    exact ⟨h3.1, by omega⟩
end Go.VC
/- Where a product belongs, by halves: the program's search. -/
namespace Go.VC.T
open Go Go.VC Go.Proofs Go.VC.F
set_option linter.unusedSimpArgs false
set_option linter.unusedVariables false
set_option linter.defProp false
set_option maxRecDepth 100000
set_option maxHeartbeats 2000000
def ltM (l : List Mono) (v : List ByteArray) (i : Nat) : Prop := ∀ h : i < l.length, cmpL l[i].vars v < 0
def hitM (l : List Mono) (v : List ByteArray) : Prop := ∃ h : posM l v < l.length, cmpL l[posM l v].vars v = 0
noncomputable instance (l : List Mono) (v : List ByteArray) : Decidable (hitM l v) := Classical.propDecidable _
theorem halves (i j : Nat) : ((i : Int) + (j : Int)).fdiv 2 = (((i + j) / 2 : Nat) : Int) := by
  rw [Int.fdiv_eq_ediv_of_nonneg _ (by omega)]; omega
def fc62A115 := (ai (ai (ai (ai sz3 ag3) (ai zv3 un3)) (ai (ai sz55 ag55) (ai zv55 (ai sb55 un55)))) (ai (ai (ai el55 ap55) (ai sz57 ag57)) (ai (ai zv57 fl57_0) (ai fl57_1 (ai pl57 okf59)))))
theorem cmpMono_ok (m : Mono) (v : List ByteArray) (hm : m.vars.length ≤ 2^48) : FnS Try.prog 62 [] [agT (eMono m), slT eS v] [] (iT (cmpL m.vars v)) := by
  refine FnS.go [0, 1, 2, 4] [] Try.func62 rfl (fun kt kz => ?_)
  have fcx := fc62A115
  simp only [Try.f62]
  refine Run (@eMono_eta) ?_; with_reducible repeat' (first | exact True.intro | refine Lf.mk ?_ ?_ | intro hb)
  refine Cal (@eMono_eta) (slicesCompare_ok m.vars v hm) ?_
  refine Run (@eMono_eta) ?_; with_reducible repeat' (first | exact True.intro | refine Lf.mk ?_ ?_ | intro hb)
def fc61A115 := (ai (ai (ai (ai (ai sz3 ag3) (ai zv3 un3)) (ai (ai sz4 ag4) (ai zv4 un4))) (ai (ai (ai sz26 ag26) (ai zv26 sb26)) (ai (ai un26 el26) (ai ap26 (ai sz55 ag55))))) (ai (ai (ai (ai zv55 sb55) (ai un55 el55)) (ai (ai ap55 sz57) (ai ag57 (ai zv57 fl57_0)))) (ai (ai (ai fl57_1 pl57) (ai sz102 ag102)) (ai (ai zv102 sz127) (ai ag127 (ai zv127 un127))))))
theorem bsMono_of (l : List Mono) (hl : l.length ≤ 2^40) (hm : ∀ m ∈ l, m.vars.length ≤ 2^48) (v : List ByteArray) (hA : AscM l) : FnS Try.prog 61 [] [slT eMono l, slT eS v, .c (.im (.fn 62 []))] [] (.tp [iT (posM l v), bT (decide (hitM l v))]) := by
  refine FnS.go [0, 1, 2, 6, 7, 8, 9, 10, 11, 17, 31] [] Try.func61 rfl (fun kt kz => ?_)
  have fcx := fc61A115
  simp only [Try.f61]
  have hg : fnOk Try.prog 62 = true := by decide +kernel
  refine Run (@eMono_eta) ?_; with_reducible repeat' (first | exact True.intro | refine Lf.mk ?_ ?_ | intro hb)
  refine Trn (α := Nat × Nat) [9, 10, 11, 15, 16, 17, 18, 19, 20, 21, 22, 23, 24, 25, 26, 27, 28, 29, 30, 31, 32, 33, 34] (fun ⟨i, j⟩ => [(9, iT i), (10, iT j)]) (fun ⟨i, j⟩ => []) (fun ⟨i, j⟩ => i ≤ j ∧ j ≤ l.length ∧ (∀ t, t < i → ltM l v t) ∧ (∀ t, j ≤ t → (h : t < l.length) → ¬ ltM l v t)) (fun ⟨i, j⟩ => j - i) ((0, l.length)) (⟨Nat.zero_le _, Nat.le_refl _, fun t h => by omega, fun t h h2 => by omega⟩) (@eMono_eta) ?_; intro lx hI; obtain ⟨i, j⟩ := lx; (try simp only [List.nil_append, List.cons_append] at hI ⊢)
  obtain ⟨h1, h2, h3, h4⟩ := hI
  by_cases hlt : i < j
  · have hh : (i + j) / 2 < l.length := by omega
    have f0 := halves i j
    have f1 : IntKind.u64.wrap ((i : Int) + (j : Int)) = (i : Int) + (j : Int) := by simp [IntKind.wrap, IntKind.signed, IntKind.bits]; omega
    have f2 : ((1 : Int) = 1) = True := eq_true rfl
    have hm' := hm _ (List.getElem_mem hh)
    refine Run ((ai (ai @eMono_eta (ai @hlt @f0)) (ai (ai @f1 @f2) (ai @hh @hg)))) ?_; with_reducible repeat' (first | exact True.intro | refine Lf.mk ?_ ?_ | intro hb)
    refine Cal (@eMono_eta) (cmpMono_ok l[(i + j) / 2] v hm') ?_
    by_cases hc : cmpL l[(i + j) / 2].vars v < 0
    · have gc := eq_true hc
      have n3 : ∀ t, t < (i + j) / 2 + 1 → ltM l v t := fun t ht hl => by
        by_cases e : t = (i + j) / 2
        · subst e; exact hc
        · exact cmpL_trans (hA t ((i + j) / 2) hh (by omega)) hc
      refine Run ((ai @eMono_eta @gc)) ?_; with_reducible repeat' (first | exact True.intro | refine Lf.mk ?_ ?_ | intro hb)
      exact Nxt (@eMono_eta) (((i + j) / 2 + 1, j)) (⟨by omega, h2, n3, h4⟩) (by first | omega | (simp; omega))
    · have gc := eq_false hc
      have n4 : ∀ t, (i + j) / 2 ≤ t → (h : t < l.length) → ¬ ltM l v t := fun t ht hl hlt => by
        by_cases e : t = (i + j) / 2
        · subst e; exact hc (hlt hl)
        · exact hc (cmpL_trans (hA ((i + j) / 2) t hl (by omega)) (hlt hl))
      refine Run ((ai @eMono_eta @gc)) ?_; with_reducible repeat' (first | exact True.intro | refine Lf.mk ?_ ?_ | intro hb)
      exact Nxt (@eMono_eta) ((i, (i + j) / 2)) (⟨by omega, by omega, h3, n4⟩) (by first | omega | (simp; omega))
  · obtain rfl : i = j := by omega
    have ep : posM l v = i := posM_eq h2 (fun t ht hl => h3 t ht hl) (fun hl hc => h4 i (Nat.le_refl _) hl fun _ => hc)
    subst ep
    by_cases hlt2 : posM l v < l.length
    · have e : decide (cmpL l[posM l v].vars v = 0) = decide (hitM l v) := decide_eq_decide.2 ⟨fun h => ⟨hlt2, h⟩, fun ⟨_, h⟩ => h⟩
      have hm' := hm _ (List.getElem_mem hlt2)
      refine Run ((ai (ai @eMono_eta @hlt) (ai @hlt2 @hg))) ?_; with_reducible repeat' (first | exact True.intro | refine Lf.mk ?_ ?_ | intro hb)
      refine Cal (@eMono_eta) (cmpMono_ok l[posM l v] v hm') ?_
      refine Run ((ai @eMono_eta (ai @hlt2 @e))) ?_; with_reducible repeat' (first | exact True.intro | refine Lf.mk ?_ ?_ | intro hb)
    · have e : false = decide (hitM l v) := (decide_eq_false fun ⟨h, _⟩ => hlt2 h).symm
      refine Run ((ai (ai @eMono_eta @hlt) (ai @hlt2 @e.symm))) ?_; with_reducible repeat' (first | exact True.intro | refine Lf.mk ?_ ?_ | intro hb)

end Go.VC.T
/- slices.Insert of one product, at the machine's level: what it does to the cells. -/
set_option linter.unusedSimpArgs false
set_option linter.unusedVariables false
namespace Go.Proofs
open Go.RowKit Go.Shelf Go.Lib Go.VC
set_option maxRecDepth 100000 in
set_option maxHeartbeats 4000000 in
theorem Try.insMono_end (w : World) (a : Option Addr) (n c vb vc : Nat) (v' : Value) (w' : World) (hnil : a = none → n = 0 ∧ c = 0) (hnc : n ≤ c) (hc : c ≤ maxLen)
    (hrun : (Builtin.append_ #[26, 26] 26 #[.slice a n c, .slice (some ⟨vb, 0, none⟩) 1 vc]).run Try.prog w = .ok v' w') :
    Calls Try.prog 63 #[.slice a n c, .int .i64 n, .slice (some ⟨vb, 0, none⟩) 1 vc] w fun e w2 => e = .returned v' ∧ w2 = w' := by
  go_enter Try.func63, Try.ntmps63
  cases a with
  | none =>
    obtain ⟨rfl, rfl⟩ := hnil rfl
    go_wp2_with (at_builtin; refine Lib.wpList_append_run _ rfl _ _ _ _ rfl _ _ rfl rfl _ _ hrun ?_)
    go_ret
    exact ⟨rfl, rfl⟩
  | some a =>
    obtain ⟨ab, ao, asp⟩ := a
    go_wp2_with (at_builtin; refine Lib.wpList_append_run _ rfl _ _ _ _ rfl _ _ rfl rfl _ _ hrun ?_)
    all_goals (go_ret; exact ⟨rfl, rfl⟩)
set_option maxRecDepth 100000 in
set_option maxHeartbeats 4000000 in
theorem Try.insMono_shift (w : World) (g n c i vb vc : Nat) (cur curv : Array Value) (xs news : List Value) (hg : w.heap[g]? = some (.cells cur 57 (0, 0))) (hsz : cur.size = c * 2) (hx : xs.length = n * 2) (htk : cur.toList.take (n * 2) = xs)
    (hi : i < n) (hroom : n + 1 ≤ c) (hc : c ≤ maxLen) (hvb : vb ≠ g) (hgv : w.heap[vb]? = some (.cells curv 57 (0, 0))) (hnl : news.length = 2) (hnt : curv.toList.take 2 = news) (h1x : ∀ u ∈ xs, u.oneCell' = true) (h1n : ∀ u ∈ news, u.oneCell' = true) :
    Calls Try.prog 63 #[.slice (some ⟨g, 0, none⟩) n c, .int .i64 i, .slice (some ⟨vb, 0, none⟩) 1 vc] w fun e w2 => e = .returned (.slice (some ⟨g, 0, none⟩) (n + 1) c) ∧
      ∃ cur1 cur2 : List Value, cur1 = cur.toList.take ((i + 1) * 2) ++ xs.drop (i * 2) ++ cur.toList.drop ((i + 1) * 2 + (xs.drop (i * 2)).length) ∧ cur2 = cur1.take (i * 2) ++ news ++ cur1.drop (i * 2 + news.length) ∧ w2 = (w.drew.setRow g cur1.toArray).setRow g cur2.toArray := by
  obtain ⟨info, hinfo, hisz⟩ : ∃ i, Try.prog.info? 57 = some i ∧ i.size = 2 := by
    have hinf : (Try.prog.info? 57).map (·.size) = some 2 := by kernel_rfl
    cases h : Try.prog.info? 57 with
    | none => rw [h] at hinf; cases hinf
    | some i => rw [h] at hinf; exact ⟨i, rfl, Option.some.inj hinf⟩
  have hov : ∀ o lb cb, (callFunc 93 #[.slice (some ⟨vb, 0, none⟩) 1 vc, .slice (some ⟨g, o, none⟩) lb cb]).run Try.prog w = .ok (.value (.bool false)) w := fun o lb cb => by
    rw [run_callFunc_extern Try.func93 (by kernel_rfl) (by kernel_rfl) (by kernel_rfl) (e := Extern.SlicesOverlaps.overlaps #[26, 26] #[4]) (by kernel_rfl),
      Lib.run_overlaps_apart w 26 4 57 Go.VC.F.un26 2 (fun w => by simp [sizeOf, typeInfo, hinfo, hisz]) ⟨vb, 0, none⟩ ⟨g, o, none⟩ 1 vc lb cb hvb 57 57 curv.size cur.size (by simp [World.shape?, hgv]) (by simp [World.shape?, hg]) (by omega) (by simp [World.frozen?, hgv]) (by simp [World.frozen?, hgv])]
    rfl
  have hz2 : ¬ ((i : Int) = (n : Int)) := by omega
  have hcc : c ≤ 9223372036854775807 := hc
  have hw1 : IntKind.i64.wrap ((i : Int) + 1) = (i : Int) + 1 := by rw [IntKind.wrap_i64]; omega
  have hw2 : IntKind.i64.wrap ((n : Int) + 1) = (n : Int) + 1 := by rw [IntKind.wrap_i64]; omega
  have hb1 : (0 : Int) ≤ (i : Int) + 1 := by omega
  have hin : i ≤ n := by omega
  have htn : ((i : Int) + 1).toNat = i + 1 := by omega
  have htn2 : ((n : Int) + 1).toNat = n + 1 := by omega
  have hb2 : ¬ (c = i + 1) := by omega
  have hb3 : (i : Int) ≤ (n : Int) + 1 := by omega
  have hb4 : ¬ (c = i) := by omega
  have hinf : (Try.prog.info? 57).map (·.size) = some 2 := by kernel_rfl
  have hu := Go.VC.F.un26
  have hdl : (xs.drop (i * 2)).length = (n - i) * 2 := by rw [List.length_drop, hx]; omega
  have hrow : ∀ (j : Nat) v, xs[j]? = some v → w.drew.cell? ⟨g, j, none⟩ = some v := fun j v hj => by
    have hg' : w.drew.heap[g]? = some (.cells cur 57 (0, 0)) := hg
    rw [cell_row hg']
    exact row_cellS htk hj
  have hcp1 : ∀ ty dc sc, (Builtin.copy_ #[26, 26] ty #[.slice (some ⟨g, (i + 1) * 2, none⟩) (n - i) dc, .slice (some ⟨g, i * 2, none⟩) (n + 1 - i) sc]).run Try.prog w.drew =
      .ok (goInt (Nat.min (n + 1 - i) (n - i))) (w.drew.setRow g (cur.toList.take ((i + 1) * 2) ++ xs.drop (i * 2) ++ cur.toList.drop ((i + 1) * 2 + (xs.drop (i * 2)).length)).toArray) := fun ty dc sc =>
    run_copy_rowS w.drew _ _ ty 57 g ((i + 1) * 2) (n - i) dc ⟨g, i * 2, none⟩ (n + 1 - i) sc 2 cur 57 (xs.drop (i * 2)) hu hinf hg
      (by rw [hdl]; simp only [Nat.min_def]; split <;> omega)
      (fun j v hj => by
        rw [Addr.add_lit]
        exact hrow _ v (by rwa [List.getElem?_drop] at hj))
      (by rw [hdl, hsz]; omega) (fun v hv => h1x v (List.mem_of_mem_drop hv))
  obtain ⟨cur1, hc1⟩ : ∃ cur1, cur1 = cur.toList.take ((i + 1) * 2) ++ xs.drop (i * 2) ++ cur.toList.drop ((i + 1) * 2 + (xs.drop (i * 2)).length) := ⟨_, rfl⟩
  rw [← hc1] at hcp1
  have hg1 : (w.drew.setRow g cur1.toArray).heap[g]? = some (.cells cur1.toArray 57 (0, 0)) := setRow_heap w.drew g cur _ _ _ hg
  have hcl : cur.toList.length = c * 2 := by simpa using hsz
  have hl1 : cur1.length = c * 2 := (ins_list1 (news := news) (a := i * 2) (p := 2) (q := n * 2) (C := c * 2) hx hnl hcl (by omega) (by omega) htk (cur1 := cur1) (by rw [hc1, show (i + 1) * 2 = i * 2 + 2 by omega]) rfl).1
  have hgv1 : (w.drew.setRow g cur1.toArray).heap[vb]? = some (.cells curv 57 (0, 0)) := by
    rw [heap_setRow_ne _ hvb]; exact hgv
  have mixed := Go.VC.F.mixed
  have hcp2 : ∀ (W : World), (∀ b : Nat, W.heap[b]? = (w.drew.setRow g cur1.toArray).heap[b]?) → ∀ ty dc, (Builtin.copy_ #[26, 26] ty #[.slice (some ⟨g, i * 2, none⟩) (n + 1 - i) dc, .slice (some ⟨vb, 0, none⟩) 1 vc]).run Try.prog W =
      .ok (goInt (Nat.min 1 (n + 1 - i))) (W.setRow g (cur1.take (i * 2) ++ news ++ cur1.drop (i * 2 + news.length)).toArray) := fun W hW ty dc =>
    run_copy_rowS W _ _ ty 57 g (i * 2) (n + 1 - i) dc ⟨vb, 0, none⟩ 1 vc 2 cur1.toArray 57 news hu hinf (by rw [hW]; exact hg1)
      (by rw [hnl]; simp only [Nat.min_def]; split <;> omega)
      (fun j v hj => by
        rw [Addr.add_lit, Nat.zero_add, cell_row (by rw [hW]; exact hgv1)]
        exact row_cellS hnt hj)
      (by simp only [List.size_toArray, hl1, hnl]; omega) h1n
  go_enter Try.func63, Try.ntmps63
  go_wp2_with (simp only [hov])
  go_region_law_o (refine step_copyR rfl _ _ 26 26 rfl _ _ (by simp [Act.eval, Act.put]) (by simp [Act.eval, Act.put]) (hcp1 _ _ _) ?_)
  go_wp2_with (at_builtin; refine wpList_copyR _ rfl _ _ 26 26 rfl _ _ rfl rfl (hcp2 _ (fun _ => rfl) _ _) ?_)
  go_ret
  exact ⟨rfl, cur1, _, hc1, rfl, by rw [hc1, hnl, hdl]; simp only [List.append_assoc]⟩
set_option maxRecDepth 100000 in
set_option maxHeartbeats 4000000 in
theorem Try.insMono_grow (w : World) (g n c i vb vc : Nat) (cur curv : Array Value) (xs news : List Value) (hg : w.heap[g]? = some (.cells cur 57 (0, 0))) (hsz : cur.size = c * 2) (hx : xs.length = n * 2) (htk : cur.toList.take (n * 2) = xs)
    (hi : i < n) (hnc : n ≤ c) (hroom : c < n + 1) (hn : n ≤ 2^40) (hgv : w.heap[vb]? = some (.cells curv 57 (0, 0))) (hnl : news.length = 2) (hnt : curv.toList.take 2 = news) (h1x : ∀ u ∈ xs, u.oneCell' = true) (h1n : ∀ u ∈ news, u.oneCell' = true) :
    Calls Try.prog 63 #[.slice (some ⟨g, 0, none⟩) n c, .int .i64 i, .slice (some ⟨vb, 0, none⟩) 1 vc] w fun e w2 => ∃ (G : Nat) (ROW : Array Value) (zs cur1 cur2 : List Value) (W1 : World), e = .returned (.slice (some ⟨w.heap.size, 0, none⟩) (n + 1) G) ∧ n + 1 ≤ G ∧ G ≤ maxLen ∧ ROW.size = G * 2 ∧ zs.length = n * 2 + 2 - i * 2 ∧ ROW.toList.take (n * 2 + 2) = xs.take (i * 2) ++ zs ∧
      W1 = w.drew.alloc (.cells ROW 57) ∧ cur1 = ROW.toList.take (i * 2) ++ news ++ ROW.toList.drop (i * 2 + news.length) ∧ cur2 = cur1.take ((i + 1) * 2) ++ xs.drop (i * 2) ++ cur1.drop ((i + 1) * 2 + (xs.drop (i * 2)).length) ∧ w2 = (W1.setRow w.heap.size cur1.toArray).drew.setRow w.heap.size cur2.toArray := by
  have hu := Go.VC.F.un26
  have hui : Try.prog.underlying 3 = some (.int .i64) := Go.VC.F.un3
  obtain ⟨i0, z, _, hi0, hz0, hzs, hpos, hs2, hby, _, _⟩ := apOf_some Go.VC.F.ap26
  have hinf : (Try.prog.info? 57).map (·.size) = some 2 := by rw [hi0]; simp [hs2]
  have hcc : c ≤ 9223372036854775807 := by omega
  have hz2 : ¬ ((i : Int) = (n : Int)) := by omega
  have hw1 : IntKind.i64.wrap ((i : Int) + 1) = (i : Int) + 1 := by rw [IntKind.wrap_i64]; omega
  have hw2 : IntKind.i64.wrap ((n : Int) + 1) = (n : Int) + 1 := by rw [IntKind.wrap_i64]; omega
  have hw3 : IntKind.i64.wrap ((n : Int) + 1 - (i : Int)) = (n : Int) + 1 - (i : Int) := by rw [IntKind.wrap_i64]; omega
  have hkk : (n : Int) + 1 - (i : Int) = ((n + 1 - i : Nat) : Int) := by omega
  have hik : i + (n + 1 - i) = n + 1 := by omega
  have hxt : (xs.take (i * 2)).length = i * 2 := by rw [List.length_take, hx]; omega
  have hrow : ∀ (j : Nat) v, xs[j]? = some v → w.cell? ⟨g, j, none⟩ = some v := fun j v hj => by
    rw [cell_row hg]
    exact row_cellS htk hj
  have hold : (Builtin.firstCells i0.size i (.slice (some ⟨g, 0, none⟩) i c)).run Try.prog w.drew = .ok (xs.take (i * 2)).toArray w.drew := by
    rw [hs2]
    exact run_firstCells_some w.drew 2 i ⟨g, 0, none⟩ i c (xs.take (i * 2)) hxt (fun j v hj => by
      rw [Addr.add_lit, Nat.zero_add]
      rw [List.getElem?_take] at hj
      split at hj
      · exact hrow j v hj
      · cases hj)
  have hrz : ∀ ty, (Builtin.append_ #[26, 3] ty #[.slice (some ⟨g, 0, none⟩) i c, .int .i64 ((n : Int) + 1 - (i : Int))]).run Try.prog w =
      .ok (.slice (some ⟨w.heap.size, 0, none⟩) (n + 1) (grownCap w (n + 1) c 57)) (w.drew.alloc (.cells ((xs.take (i * 2)).toArray ++ Builtin.zeroCells z.cells (n + 1 - i) ++ Builtin.zeroCells z.cells (grownCap w (n + 1) c 57 - (n + 1))) 57)) := fun ty => by
    have h := Lib.run_append_grow_zeros w 26 3 ty 57 i0 z .i64 .i64 hu hui hi0 hz0 (some ⟨g, 0, none⟩) i c (xs.take (i * 2)) hold (n + 1 - i) (by omega) (by omega) (by omega) (by omega) (by rw [hby]; omega) (by rw [hby, hik]; exact growslice_fits hroom (by omega))
    rw [hik] at h
    rw [hkk]
    exact h
  have hGn := grownCap_ge w (n + 1) c 57
  have hGm := grownCap_le_maxLen w (n + 1) c 57 (by simp [maxLen]; omega)
  obtain ⟨G, hG⟩ : ∃ G, G = grownCap w (n + 1) c 57 := ⟨_, rfl⟩
  rw [← hG] at hrz hGn hGm
  have hG63 : G ≤ 9223372036854775807 := hGm
  obtain ⟨zs, hzs2⟩ : ∃ zs, zs = (Builtin.zeroCells z.cells (n + 1 - i)).toList := ⟨_, rfl⟩
  obtain ⟨ROW, hROW⟩ : ∃ ROW : Array Value, ROW = (xs.take (i * 2)).toArray ++ Builtin.zeroCells z.cells (n + 1 - i) ++ Builtin.zeroCells z.cells (G - (n + 1)) := ⟨_, rfl⟩
  rw [← hROW] at hrz
  have hRl : ROW.size = G * 2 := by
    rw [hROW]
    simp only [Array.size_append, List.size_toArray, size_zeroCells, hzs, hs2, hxt]
    omega
  have hzl : zs.length = n * 2 + 2 - i * 2 := by
    rw [hzs2, Array.length_toList, size_zeroCells, hzs, hs2]; omega
  have hRt : ROW.toList.take (n * 2 + 2) = xs.take (i * 2) ++ zs := by
    rw [hROW, Array.toList_append, Array.toList_append, ← hzs2]
    exact take_app (by rw [List.length_append, hzl, hxt]; omega)
  obtain ⟨W1, hW1⟩ : ∃ W1, W1 = w.drew.alloc (.cells ROW 57) := ⟨_, rfl⟩
  rw [← hW1] at hrz
  have hgw : g < w.heap.size := (Array.getElem?_eq_some_iff.1 hg).1
  have hvw : vb < w.heap.size := (Array.getElem?_eq_some_iff.1 hgv).1
  have hN : W1.heap[w.heap.size]? = some (.cells ROW 57 (0, 0)) := by rw [hW1]; exact heap_alloc_new w.drew _
  have hOg : W1.heap[g]? = some (.cells cur 57 (0, 0)) := by rw [hW1]; exact (heap_alloc_old w.drew _ hgw).trans hg
  have hOv : W1.heap[vb]? = some (.cells curv 57 (0, 0)) := by rw [hW1]; exact (heap_alloc_old w.drew _ hvw).trans hgv
  have hcpA : ∀ (W : World), (∀ b : Nat, W.heap[b]? = W1.heap[b]?) → ∀ ty dc, (Builtin.copy_ #[26, 26] ty #[.slice (some ⟨w.heap.size, i * 2, none⟩) (n + 1 - i) dc, .slice (some ⟨vb, 0, none⟩) 1 vc]).run Try.prog W =
      .ok (goInt (Nat.min 1 (n + 1 - i))) (W.setRow w.heap.size (ROW.toList.take (i * 2) ++ news ++ ROW.toList.drop (i * 2 + news.length)).toArray) := fun W hW ty dc =>
    run_copy_rowS W _ _ ty 57 w.heap.size (i * 2) (n + 1 - i) dc ⟨vb, 0, none⟩ 1 vc 2 ROW 57 news hu hinf (by rw [hW]; exact hN)
      (by rw [hnl]; simp only [Nat.min_def]; split <;> omega)
      (fun j v hj => by
        rw [Addr.add_lit, Nat.zero_add, cell_row (by rw [hW]; exact hOv)]
        exact row_cellS hnt hj)
      (by rw [hRl, hnl]; omega) h1n
  obtain ⟨cur1, hc1⟩ : ∃ cur1, cur1 = ROW.toList.take (i * 2) ++ news ++ ROW.toList.drop (i * 2 + news.length) := ⟨_, rfl⟩
  rw [← hc1] at hcpA
  have hcl1 : cur1.length = G * 2 := by
    rw [hc1]
    have : ROW.toList.length = G * 2 := by simpa using hRl
    simp only [List.length_append, List.length_take, List.length_drop, this, hnl]
    omega
  have hdl : (xs.drop (i * 2)).length = (n - i) * 2 := by rw [List.length_drop, hx]; omega
  have hcpB : ∀ (W : World), (∀ b : Nat, W.heap[b]? = (W1.setRow w.heap.size cur1.toArray).heap[b]?) → ∀ ty dc sc, (Builtin.copy_ #[26, 26] ty #[.slice (some ⟨w.heap.size, (i + 1) * 2, none⟩) (n - i) dc, .slice (some ⟨g, i * 2, none⟩) (n - i) sc]).run Try.prog W =
      .ok (goInt (Nat.min (n - i) (n - i))) (W.setRow w.heap.size (cur1.take ((i + 1) * 2) ++ xs.drop (i * 2) ++ cur1.drop ((i + 1) * 2 + (xs.drop (i * 2)).length)).toArray) := fun W hW ty dc sc =>
    run_copy_rowS W _ _ ty 57 w.heap.size ((i + 1) * 2) (n - i) dc ⟨g, i * 2, none⟩ (n - i) sc 2 cur1.toArray 57 (xs.drop (i * 2)) hu hinf (by rw [hW]; exact setRow_heap W1 _ ROW _ _ _ hN)
      (by rw [hdl]; simp only [Nat.min_def]; split <;> omega)
      (fun j v hj => by
        rw [Addr.add_lit, cell_row (by rw [hW, heap_setRow_ne _ (by omega)]; exact hOg)]
        exact row_cellS htk (by rwa [List.getElem?_drop] at hj))
      (by simp only [List.size_toArray, hcl1, hdl]; omega) (fun v hv => h1x v (List.mem_of_mem_drop hv))
  have hb1 : (0 : Int) ≤ (i : Int) + 1 := by omega
  have hin : i ≤ n := by omega
  have htn : ((i : Int) + 1).toNat = i + 1 := by omega
  have hb2 : ¬ (G = i + 1) := by omega
  have hb3 : (i : Int) ≤ (n : Int) + 1 := by omega
  have hb4 : ¬ (G = i) := by omega
  have hb5 : ¬ (c = i) := by omega
  have mixed := Go.VC.F.mixed
  have hb6 : (i : Int) ≤ (n : Int) := by omega
  have hlast : (W1.setRow w.heap.size cur1.toArray).drew.setRow w.heap.size (cur1.take ((i + 1) * 2) ++ xs.drop (i * 2) ++ cur1.drop ((i + 1) * 2 + (xs.drop (i * 2)).length)).toArray = (W1.setRow w.heap.size cur1.toArray).drew.setRow w.heap.size (cur1.take ((i + 1) * 2) ++ xs.drop (i * 2) ++ cur1.drop ((i + 1) * 2 + (xs.drop (i * 2)).length)).toArray := rfl
  obtain ⟨cur2, hc2⟩ : ∃ cur2, cur2 = cur1.take ((i + 1) * 2) ++ xs.drop (i * 2) ++ cur1.drop ((i + 1) * 2 + (xs.drop (i * 2)).length) := ⟨_, rfl⟩
  rw [← hc2] at hcpB
  suffices H : Calls Try.prog 63 #[.slice (some ⟨g, 0, none⟩) n c, .int .i64 i, .slice (some ⟨vb, 0, none⟩) 1 vc] w fun e w2 => e = .returned (.slice (some ⟨w.heap.size, 0, none⟩) (n + 1) G) ∧ w2 = (W1.setRow w.heap.size cur1.toArray).drew.setRow w.heap.size cur2.toArray from
    H.mono fun e w2 ⟨h1, h2⟩ => ⟨G, ROW, zs, cur1, cur2, W1, h1, hGn, hGm, hRl, hzl, hRt, hW1, hc1, hc2, h2⟩
  clear hlast hkk hik hold hROW hRl hzl hRt hzs2 hW1 hc1 hc2 hcl1 hdl hrow hxt hN hOg hOv hGm hG h1x h1n hnt hnl hgv hg hsz hx htk hgw hvw
  go_enter Try.func63, Try.ntmps63
  go_wp2_with (first
    | (at_builtin; refine Lib.wpList_append_run _ rfl _ _ _ _ rfl _ _ rfl rfl _ _ (hrz _) ?_)
    | (at_builtin; refine wpList_copyR _ rfl _ _ 26 26 rfl _ _ rfl rfl (hcpA _ (fun _ => rfl) _ _) ?_))
  go_region_law_o (refine step_copyR rfl _ _ 26 26 rfl (.slice (some ⟨w.heap.size, (i + 1) * 2, none⟩) (n - i) (G - (i + 1))) (.slice (some ⟨g, i * 2, none⟩) (n - i) (c - i)) (by simp [Act.eval, Act.put]) (by simp [Act.eval, Act.put]) (hcpB (W1.setRow w.heap.size cur1.toArray).drew (fun _ => rfl) 3 (G - (i + 1)) (c - i)) ?_)
  go_wp2
  go_ret
  exact ⟨rfl, rfl⟩
end Go.Proofs
/- slices.Insert of one product: a contract. -/
set_option linter.unusedSimpArgs false
set_option linter.unusedVariables false
namespace Go.VC
open Go Go.RowKit Go.Proofs
theorem grown_setRow (w : World) (g : Nat) (cs : Array Value) : w.grownBy (w.setRow g cs) (some g) := ⟨rfl, rfl, rfl, by simp [World.setRow], fun k _ hk => heap_setRow_ne w (fun e => hk (by rw [e])) cs⟩
theorem grown_trans {w w1 w2 : World} {r : Option Nat} (h1 : w.grownBy w1 r) (h2 : w1.grownBy w2 r) : w.grownBy w2 r := ⟨h2.os.trans h1.os, h2.tape.trans h1.tape, h2.output.trans h1.output, Nat.le_trans h1.size h2.size, fun k hk hr => (h2.block k (Nat.lt_of_lt_of_le hk h1.size) hr).trans (h1.block k hk hr)⟩
theorem grown_drew (w : World) (r : Option Nat) : w.grownBy w.drew r := ⟨rfl, rfl, rfl, Nat.le_refl _, fun _ _ _ => rfl⟩
theorem rowOk_set {w : World} {g cap n sz : Nat} {e : TypeId} {cur : Array Value} (l : List Value) {xs : List Value} (hg : w.heap[g]? = some (.cells cur e (0, 0))) (hc : 0 < cap) (hn : n ≤ cap) (hm : cap ≤ maxLen) (hl : l.length = cap * sz) (ht : l.take (n * sz) = xs) (hxl : xs.length = n * sz) :
    RowOk (w.setRow g l.toArray) e sz (.slice (some ⟨g, 0, none⟩) n cap) n xs := ⟨hxl, .inr ⟨g, cap, l.toArray, rfl, hc, setRow_heap w g cur _ _ _ hg, hn, hm, by simpa using hl, by simpa using ht⟩⟩
theorem Try.insMono : InsRun Try.prog 63 57 2 (2^30) := by
  intro w v n i xs news vb vc hr hi hr2 hne hB h1 h2
  obtain ⟨i0, z, hu, hi0, hz0, hzs, hpos, hs2, hby, _, _⟩ := apOf_some Go.VC.F.ap26
  obtain ⟨hnl, h | ⟨vb', cap2, curv, e2, hcp2, hgv, hn2, hm2, hsz2, htk2⟩⟩ := id hr2
  · exact absurd h.1 (by simp)
  obtain ⟨rfl, rfl⟩ : vb = vb' ∧ vc = cap2 := by injection e2 with q1 q2 q3; injection q1 with q1; injection q1 with q1; exact ⟨q1, q3⟩
  have hnl2 : news.length = 2 := by omega
  have hcell : ∀ b, some (⟨vb, 0, none⟩ : Addr) = some b → ∀ j u, news[j]? = some u → w.cell? (b.add j) = some u := fun b hb j u hj => by
    obtain rfl := Option.some.inj hb
    rw [Addr.add_lit, Nat.zero_add, cell_row hgv]
    exact row_cellS htk2 hj
  by_cases hin : i = n
  · subst hin
    obtain ⟨a, c, rfl, hnc, hcm, hnil⟩ := hr.slice
    have hr' : RowOk w 57 i0.size (.slice a i c) i xs := by rw [hs2]; exact hr
    obtain ⟨v', w', hrun, ho, hg, _, hb⟩ := append_row (P := Try.prog) (ty := 26) hu hi0 hz0 hzs hpos hr' (some ⟨vb, 0, none⟩) 1 vc news (fun h => by cases h) (by rw [hs2]; omega) hcell h2 (by simp [maxLen]; omega) (by rw [hby]; omega)
    rw [hs2] at ho
    refine (Try.insMono_end w a i c vb vc v' w' (fun h => ?_) hnc hcm hrun).mono fun e w2 ⟨q1, q2⟩ => ?_
    · have := hnil h; omega
    · subst q2
      refine ⟨v', q1, ?_, hg, hb⟩
      rw [List.take_of_length_le (by rw [hr.1]; omega), List.drop_of_length_le (by rw [hr.1]; omega), List.append_nil]
      exact ho
  · have hlt : i < n := by omega
    obtain ⟨hxl, h | ⟨g, cap, cur, rfl, hcp, hg, hnc, hcm, hsz, htk⟩⟩ := hr
    · omega
    have hcl : cur.toList.length = cap * 2 := by simpa using hsz
    have hvg : vb ≠ g := fun e => hne (by rw [rowB_some hcp, e])
    have e1 : (i + 1) * 2 = i * 2 + 2 := by omega
    have hres : (xs.take (i * 2) ++ news ++ xs.drop (i * 2)).length = (n + 1) * 2 := by simp only [List.length_append, List.length_take, List.length_drop, hxl, hnl2]; omega
    by_cases hroom : n + 1 ≤ cap
    · refine (Try.insMono_shift w g n cap i vb vc cur curv xs news hg hsz hxl htk hlt hroom hcm hvg hgv hnl2 (by simpa using htk2) h1 h2).mono fun e w2 ⟨q1, cur1, cur2, q2, q3, q4⟩ => ?_
      rw [e1] at q2
      obtain ⟨p1, p2, p3⟩ := ins_list1 hxl hnl2 hcl (by omega) (by omega) htk q2 q3
      subst q4
      refine ⟨_, q1, rowOk_set cur2 (setRow_heap w.drew g cur _ _ _ hg) hcp hroom hcm p2 (by rw [show (n + 1) * 2 = n * 2 + 2 by omega]; exact p3) hres, ?_, fun b hb => .inl (by rw [rowB_some hcp] at hb ⊢; exact hb)⟩
      rw [rowB_some hcp]
      exact grown_trans (grown_trans (grown_drew w _) (grown_setRow _ _ _)) (grown_setRow _ _ _)
    · refine (Try.insMono_grow w g n cap i vb vc cur curv xs news hg hsz hxl htk hlt hnc (by omega) (by omega) hgv hnl2 (by simpa using htk2) h1 h2).mono fun e w2 ⟨G, ROW, zs, cur1, cur2, W1, q1, q2, q3, q4, q5, q6, q7, q8, q9, q10⟩ => ?_
      rw [e1] at q9
      obtain ⟨p1, p2, p3⟩ := ins_list2 hxl hnl2 (by simpa using q4) (by omega) (by omega) q5 q6 q8 q9
      subst q10
      have hN : W1.heap[w.heap.size]? = some (.cells ROW 57 (0, 0)) := by rw [q7]; exact heap_alloc_new w.drew _
      have hN2 : (W1.setRow w.heap.size cur1.toArray).drew.heap[w.heap.size]? = some (.cells cur1.toArray 57 (0, 0)) := setRow_heap W1 _ ROW _ _ _ hN
      refine ⟨_, q1, rowOk_set cur2 hN2 (by omega) q2 q3 p2 (by rw [show (n + 1) * 2 = n * 2 + 2 by omega]; exact p3) hres, ⟨?_, ?_, ?_, ?_, fun k hk _ => ?_⟩, fun b hb => .inr ?_⟩
      · rw [q7]; rfl
      · rw [q7]; rfl
      · rw [q7]; rfl
      · have s1 := (grown_setRow (W1.setRow w.heap.size cur1.toArray).drew w.heap.size cur2.toArray).size
        have s2 : W1.heap.size ≤ (W1.setRow w.heap.size cur1.toArray).drew.heap.size := (grown_setRow W1 w.heap.size cur1.toArray).size
        have s3 : w.heap.size ≤ W1.heap.size := by rw [q7]; simp
        omega
      · rw [heap_setRow_ne _ (by omega), show (W1.setRow w.heap.size cur1.toArray).drew.heap[k]? = (W1.setRow w.heap.size cur1.toArray).heap[k]? from rfl, heap_setRow_ne _ (by omega), q7]
        exact heap_alloc_old w.drew _ hk
      · rw [rowB_some (by omega)] at hb
        obtain rfl := Option.some.inj hb
        exact Nat.le_refl _
/-- One product is put into a row. -/
theorem Try.insMono_ok (n i : Nat) (cs ys : List IV) (own : Bool) (hi : i ≤ n) (hB : n ≤ 2^30) :
    FnS Try.prog 63 [(1, .vec 57 2 n cs own), (3, .vec 57 2 1 ys own)] [.c (.os 1 n), iT i, .c (.os 3 1)] [(1, .vec 57 2 (n + 1) (cs.take (i * 2) ++ ys ++ cs.drop (i * 2)) own)] (.c (.os 1 (n + 1))) := FnS.insertS Try.insMono n i cs ys own hi hB
end Go.VC
/- slices.Grow of the nil slice: a contract. -/
set_option linter.unusedSimpArgs false
set_option linter.unusedVariables false
namespace Go.Proofs
open Go.RowKit Go.Shelf Go.Lib Go.VC
set_option maxRecDepth 100000 in
set_option maxHeartbeats 4000000 in
theorem Try.growMono_nil (w : World) (n : Nat) (hn : n ≤ 2^40) :
    Calls Try.prog 60 #[.slice none 0 0, .int .i64 n] w fun e w' => ∃ v', e = .returned v' ∧ RowOk w' 57 2 v' 0 [] ∧ w.grownBy w' none ∧ ∀ b, rowB v' = some b → w.heap.size ≤ b ∧ b < w'.heap.size := by
  have hu := Go.VC.F.un26
  have hui : Try.prog.underlying 3 = some (.int .i64) := Go.VC.F.un3
  obtain ⟨i0, z, _, hi0, hz0, hzs, hpos, hs2, hby, _, _⟩ := apOf_some Go.VC.F.ap26
  have mixed := Go.VC.F.mixed
  by_cases h0 : n = 0
  · subst h0
    suffices H : Calls Try.prog 60 #[.slice none 0 0, .int .i64 ((0 : Nat) : Int)] w fun e w' => e = .returned (.slice none 0 0) ∧ w' = w from
      H.mono fun e w' ⟨h1, h2⟩ => ⟨_, h1, ⟨rfl, .inl ⟨rfl, none, rfl⟩⟩, by rw [h2]; exact World.grownBy.refl w _, fun b hb => by cases hb⟩
    go_enter Try.func60, Try.ntmps60
    go_wp2
    go_ret
    exact ⟨rfl, rfl⟩
  · have hrun : ∀ ty, (Builtin.append_ #[26, 3] ty #[.slice none 0 0, .int .i64 (n : Int)]).run Try.prog w = _ := fun ty => Lib.run_append_nil_zeros w 26 3 ty 57 i0 z .i64 .i64 hu hui hi0 hz0 n (by omega) hpos (by omega) (by rw [hby]; omega)
    obtain ⟨G, hG⟩ : ∃ G, G = grownCap w n 0 57 := ⟨_, rfl⟩
    have hGn := grownCap_ge w n 0 57
    have hGm := grownCap_le_maxLen w n 0 57 (by simp [maxLen]; omega)
    rw [← hG] at hrun hGn hGm
    obtain ⟨ROW, hROW⟩ : ∃ ROW, ROW = Builtin.zeroCells z.cells n ++ Builtin.zeroCells z.cells (G - n) := ⟨_, rfl⟩
    rw [← hROW] at hrun
    obtain ⟨W1, hW1⟩ : ∃ W1, W1 = w.drew.alloc (.cells ROW 57) := ⟨_, rfl⟩
    rw [← hW1] at hrun
    have hRl : ROW.size = G * 2 := by
      rw [hROW]
      simp only [Array.size_append, size_zeroCells, hzs, hs2]
      omega
    have h1 : ¬ ((n : Int) < 0) := by omega
    have h2 : (0 : Int) < (n : Int) := by omega
    have hw1 : IntKind.i64.wrap (n : Int) = n := by rw [IntKind.wrap_i64]; omega
    suffices H : Calls Try.prog 60 #[.slice none 0 0, .int .i64 (n : Int)] w fun e w' => e = .returned (.slice (some ⟨w.heap.size, 0, none⟩) 0 G) ∧ w' = W1 from
      H.mono fun e w' ⟨q1, q2⟩ => by
        have hN : W1.heap[w.heap.size]? = some (.cells ROW 57 (0, 0)) := by rw [hW1]; exact heap_alloc_new w.drew _
        subst q2
        refine ⟨_, q1, ⟨rfl, .inr ⟨w.heap.size, G, ROW, rfl, by omega, hN, by omega, hGm, hRl, by simp⟩⟩, ⟨by rw [hW1]; rfl, by rw [hW1]; rfl, by rw [hW1]; rfl, by rw [hW1]; simp, fun k hk _ => by rw [hW1]; exact heap_alloc_old w.drew _ hk⟩, fun b hb => ?_⟩
        rw [rowB_some (by omega)] at hb
        obtain rfl := Option.some.inj hb
        exact ⟨Nat.le_refl _, (Array.getElem?_eq_some_iff.1 hN).1⟩
    clear hROW hRl hGn hG hu hui
    go_enter Try.func60, Try.ntmps60
    go_wp2_with (at_builtin; refine Lib.wpList_append_run _ rfl _ _ _ _ rfl _ _ rfl rfl _ _ (hrun _) ?_)
    go_ret
    exact ⟨rfl, rfl⟩
end Go.Proofs
namespace Go.VC
open Go Go.RowKit
/-- A call that hands back a new row without elements. -/
theorem FnS.fresh {P : Program} {g : FuncId} {args : List TV} {t : TypeId} {sz : Nat} (hpos : 0 < sz) (own : Bool) (H : ∀ (w : World) (ω : Lab) (κ : Nat → Value) (vs : List Value), All2 (RT w ω κ []) args vs →
      Calls P g vs.toArray w fun e w' => ∃ v', e = .returned v' ∧ RowOk w' t sz v' 0 [] ∧ w.grownBy w' none ∧ ∀ b, rowB v' = some b → w.heap.size ≤ b ∧ b < w'.heap.size) (k : Nat) :
    FnS P g [] args [(k, .vec t sz 0 [] own)] (.c (.os k 0)) := by
  intro w ω κ vs hS hω hvs
  refine (H w ω κ vs hvs).mono fun e w' ⟨v', he, hr, hg, hb⟩ => ?_
  obtain ⟨a', c', hsl, hs1, hs2, hs3⟩ := hr.slice
  have hlab : ∀ b, ω b ≠ .no → rowB v' ≠ some b := fun b hbn e => by
    have h1 := hS.dom b hbn
    have h2 := (hb b e).1
    omega
  refine ⟨v', fun b => if rowB v' = some b then .ob k else ω b, setK κ k v', he, Turn.grown hg (fun b hb => by cases hb) (fun b hbi => ?_) (fun b hbl hno => ?_), ⟨fun j o ho => ?_, fun b hbn => ?_⟩, ?_, fun j hj => by rw [get_nil] at hj; cases hj⟩
  · show (if rowB v' = some b then Lb.ob k else ω b) = .im
    rw [if_neg (hlab b (by rw [hbi]; simp)), hbi]
  · show (if rowB v' = some b then Lb.ob k else ω b) = .no
    rw [if_neg fun e => by have := (hb b e).1; omega, hno]
  · rw [get_cons] at ho
    split at ho
    · rename_i ek
      subst ek
      obtain rfl := Option.some.inj ho
      refine ⟨hpos, [], by rw [setK_eq]; exact hr, fun b hbv => ?_, ?_⟩
      · rw [setK_eq] at hbv
        show (if rowB v' = some b then Lb.ob j else ω b) = _
        rw [if_pos hbv]
      · unfold CellsOk
        cases own with
        | true => exact ⟨rfl, fun _ _ => False, fun j x v h => by simp at h, fun i j b hi => by simp at hi, fun j b hj => by simp at hj⟩
        | false => exact ⟨rfl, fun j x v h => by simp at h⟩
    · rw [get_nil] at ho; cases ho
  · by_cases e : rowB v' = some b
    · exact (hb b e).2
    · have hbn' : (if rowB v' = some b then Lb.ob k else ω b) ≠ .no := hbn
      rw [if_neg e] at hbn'
      exact Nat.lt_of_lt_of_le (hS.dom b hbn') hg.size
  · rw [hsl]
    exact .os k _ a' c' hs1 hs3 fun o m ho hm => by
      rw [get_cons, if_pos rfl] at ho
      obtain rfl := Option.some.inj ho
      obtain rfl := Option.some.inj hm
      exact ⟨Nat.le_refl _, fun _ => by rw [setK_eq]⟩
theorem growMono_ok (n : Nat) (hn : n ≤ 2^40) (own : Bool) (k : Nat) : FnS Go.Proofs.Try.prog 60 [] [.c .nl, .c (.im (.sc (.int .i64 n)))] [(k, .vec 57 2 0 [] own)] (.c (.os k 0)) := by
  refine FnS.fresh (by omega) own (fun w ω κ vs hvs => ?_) k
  obtain ⟨v0, v1, rfl⟩ : ∃ v0 v1, vs = [v0, v1] := by
    have := hvs.1
    match vs, this with
    | [v0, v1], _ => exact ⟨v0, v1, rfl⟩
  have c0 := hvs.2 0 _ v0 rfl rfl
  have c1 := hvs.2 1 _ v1 rfl rfl
  have e0 : v0 = .slice none 0 0 := by cases c0; rfl
  have e1 : v1 = .int .i64 n := by
    cases c1 with
    | im _ _ h => cases h; rfl
  subst e0; subst e1
  exact Go.Proofs.Try.growMono_nil w n hn
end Go.VC
/- slices.Clone of texts: a new row. -/
namespace Go.VC.T
open Go Go.VC Go.Proofs Go.VC.F
set_option linter.unusedSimpArgs false
set_option linter.unusedVariables false
set_option linter.defProp false
set_option maxRecDepth 100000
set_option maxHeartbeats 2000000
def fc64A120 := (ai (ai (ai sz4 ag4) (ai zv4 (ai un4 sz55))) (ai (ai ag55 (ai zv55 sb55)) (ai un55 (ai el55 ap55))))
theorem slCl_ne (xs : List ByteArray) (hx : xs.length ≤ 2^20) (hn : ¬ xs.length = 0) : FnS Try.prog 64 [] [slT eS xs] [(10, .vec 9 1 xs.length (xs.flatMap eS) true)] (.c (.os 10 xs.length)) := by
  refine FnS.go [0, 2, 4] [] Try.func64 rfl (fun kt kz => ?_)
  have fcx := fc64A120
  simp only [Try.f64]
  refine Run ((ai @hn @allSc_eS)) ?_; with_reducible repeat' (first | exact True.intro | refine Lf.mk ?_ ?_ | intro hb)
  rename_i b
  have hbf : b = false := by cases b with | false => rfl | true => exact (hb rfl).elim
  have hfl : (xs.flatMap eS).length = xs.length := by rw [flat_len']; omega
  refine Run ((ai @hbf (ai @allSc_eS @hfl))) ?_; with_reducible repeat' (first | exact True.intro | refine Lf.mk ?_ ?_ | intro hb)
theorem slCl_nil (u : Unit) : FnS Try.prog 64 [] [slT eS []] [(10, .vec 9 1 0 [] true)] (.c (.os 10 0)) := by
  refine FnS.go [0, 2, 4] [] Try.func64 rfl (fun kt kz => ?_)
  have fcx := fc64A120
  simp only [Try.f64]
  refine Run (@allSc_eS) ?_; with_reducible repeat' (first | exact True.intro | refine Lf.mk ?_ ?_ | intro hb)
  cases hb
  · have hf : ([] : List ByteArray).flatMap eS = [] := rfl
    have hl : ([] : List IV).length = 0 := rfl
    have ha : allSc [] = true := rfl
    refine Run ((ai @hf (ai @hl @ha))) ?_; with_reducible repeat' (first | exact True.intro | refine Lf.mk ?_ ?_ | intro hb)
  · refine Sm.cond (b := true) rfl (fun _ => ?_) (fun h => by cases h)
    refine Sm.seq (Sm.region ?_)
    simp -dsimp (maxSteps := 2000000) (disch := omega) only [vs, ↓Option.bind_some, ev1, ofV, scalarB, Kn, Kb, calleeOf, evLoad, ptr, evField, evFieldAddr, shift, ↓pt_at, ↓pt_at1, evExtract, evBin, evLen, evConv, cellsT, noS, Cell.has, Cell.hasN, Cell.anyN, toIV, toIV0, toIVs, ownC, srcM, Ob.own, Ob.esz, allSc, nilK, lenC, ownCell, isPtr, ptrNil, frzO, Cell.frz, Cell.keys, ↓reduceIte, reduceCtorEq, Nat.reduceEqDiff, Nat.reduceBEq, Nat.reduceBNe, Nat.reduceAdd, Nat.reduceMul, Nat.reduceSub, Nat.reduceLT, Nat.reduceLeDiff, Nat.reducePow, Int.reduceLT, Int.reduceLE, Int.reduceEq, Int.reduceNe, quietB, Nat.reduceMod, Int.reduceToNat, ne_eq, eq_self, exists_const, evBytes, byRow, byL, byStr_size, ifsz, ByteArray.size_append, Option.none_or, Option.some_or, evLook, keyD, fc64A120]
    refine Sm.nlT 2 10 9 1 true rfl rfl (by decide) rfl rfl ?_
    exact Sm.ret (RetK.own (.inr rfl) rfl (by simp [subS, get]))

theorem slCl_any (xs : List ByteArray) (hx : xs.length ≤ 2^20) (q : Nat) : FnS Try.prog 64 [] [slT eS xs] [(q, .vec 9 1 xs.length (xs.flatMap eS) true)] (.c (.os q xs.length)) := by
  obtain ⟨p, hp⟩ := pm1 10 q
  by_cases hn : xs.length = 0
  · obtain rfl := List.eq_nil_of_length_eq_zero hn
    refine ((slCl_nil ()).pm p).as ?_ ?_ <;> simp [renS, Ob.ren, TV.ren, Cell.ren, hp]
  · refine ((slCl_ne xs hx hn).pm p).as ?_ ?_ <;> simp [renS, Ob.ren, TV.ren, Cell.ren, hp]
end Go.VC.T
/- Two rows of products one behind the other; a product put into an own sum: the program. -/
namespace Go.VC
open Go
theorem flat_setM : ∀ {l : List Mono} {p : Nat} (h : p < l.length) (c : Int), (l.flatMap eMono).set (p * 2) (.sc (.int .i64 c)) = (l.set p ⟨c, l[p].vars⟩).flatMap eMono
  | a :: r, 0, _, c => rfl
  | a :: r, p + 1, h, c => by
    rw [List.flatMap_cons, List.set_cons_succ, List.flatMap_cons]
    simp only [List.getElem_cons_succ]
    rw [← flat_setM (l := r) (p := p) (by simp at h; exact h) c]
    show ([_, _] ++ r.flatMap eMono).set ((p + 1) * 2) _ = [_, _] ++ _
    rw [show (p + 1) * 2 = p * 2 + 1 + 1 by omega]
    rfl
theorem flat_takeM : ∀ (l : List Mono) (p : Nat), (l.flatMap eMono).take (p * 2) = (l.take p).flatMap eMono
  | [], p => by simp
  | a :: r, 0 => by simp
  | a :: r, p + 1 => by
    rw [List.take_succ_cons, List.flatMap_cons, List.flatMap_cons, ← flat_takeM r p]
    show ([_, _] ++ _).take ((p + 1) * 2) = [_, _] ++ _
    rw [show (p + 1) * 2 = p * 2 + 1 + 1 by omega]
    rfl
theorem flat_dropM : ∀ (l : List Mono) (p : Nat), (l.flatMap eMono).drop (p * 2) = (l.drop p).flatMap eMono
  | [], p => by simp
  | a :: r, 0 => by simp
  | a :: r, p + 1 => by
    rw [List.drop_succ_cons, List.flatMap_cons, ← flat_dropM r p]
    show ([_, _] ++ _).drop ((p + 1) * 2) = _
    rw [show (p + 1) * 2 = p * 2 + 1 + 1 by omega]
    rfl
theorem flat_insM {l : List Mono} {p : Nat} {x : Mono} : (l.flatMap eMono).take (p * 2) ++ eMono x ++ (l.flatMap eMono).drop (p * 2) = (l.take p ++ [x] ++ l.drop p).flatMap eMono := by
  rw [flat_takeM, flat_dropM]; simp only [List.flatMap_append, flat_one]
end Go.VC
namespace Go.VC.T
open Go Go.VC Go.Proofs Go.VC.F
set_option linter.unusedSimpArgs false
set_option linter.unusedVariables false
set_option linter.defProp false
set_option maxRecDepth 100000
set_option maxHeartbeats 2000000
def fc31A116 := (ai (ai (ai (ai (ai sz3 ag3) (ai zv3 (ai un3 sz4))) (ai (ai ag4 (ai zv4 un4)) (ai sz26 (ai ag26 zv26)))) (ai (ai (ai sb26 un26) (ai el26 (ai ap26 sz28))) (ai (ai ag28 (ai zv28 fl28_0)) (ai pl28 (ai sz55 ag55))))) (ai (ai (ai (ai zv55 sb55) (ai un55 (ai el55 ap55))) (ai (ai sz57 (ai ag57 zv57)) (ai fl57_0 (ai fl57_1 pl57)))) (ai (ai (ai sz99 ag99) (ai zv99 (ai un99 sz102))) (ai (ai ag102 (ai zv102 okf61)) (ai okf62 (ai okf63 okf64))))))
theorem addMono_is (l : List Mono) (hl : l.length ≤ 2^20) (hm : ∀ m ∈ l, m.vars.length ≤ 2^48) (hA : AscM l) (x : Mono) (hp : posM l x.vars < l.length) (hc : cmpL l[posM l x.vars].vars x.vars = 0) (hb : -9223372036854775808 ≤ l[posM l x.vars].coef + x.coef ∧ l[posM l x.vars].coef + x.coef ≤ 9223372036854775807) : FnS Try.prog 31 [(1, .box 28 [.os 3 l.length]), (3, .vec 57 2 l.length (l.flatMap eMono) true)] [.c (.rf 1 0), agT (eMono x)] [(1, .box 28 [.os 3 l.length]), (3, .vec 57 2 l.length ((l.set (posM l x.vars) ⟨l[posM l x.vars].coef + x.coef, l[posM l x.vars].vars⟩).flatMap eMono) true)] (.tp []) := by
  refine FnS.go [0, 1, 3, 4, 5, 16] [] Try.func31 rfl (fun kt kz => ?_) (hodd := by refine oddS _ ?_; simp)
  have fcx := fc31A116
  simp only [Try.f31]
  have gH : decide (hitM l x.vars) = true := decide_eq_true ⟨hp, hc⟩
  refine RunX (@eMono_eta) ?_; with_reducible repeat' (first | exact True.intro | refine Lf.mk ?_ ?_ | intro hb)
  refine Cal (@eMono_eta) (bsMono_of l (by omega) hm x.vars hA) ?_
  have hcl : (ownCells 3 0 (l.flatMap eMono))[posM l x.vars * 2]? = some (.im (.sc (.int .i64 l[posM l x.vars].coef))) := by rw [ownCells_get, flat_get0 hp (by omega)]; rfl
  have gp := eq_true hp
  refine RunX ((ai (ai @eMono_eta @gH) (ai @hcl @gp))) ?_; with_reducible repeat' (first | exact True.intro | refine Lf.mk ?_ ?_ | intro hb)
  rw [flat_setM hp]
theorem addMono_no (l : List Mono) (hl : l.length ≤ 2^20) (hm : ∀ m ∈ l, m.vars.length ≤ 2^48) (hA : AscM l) (x : Mono) (hx : x.vars.length ≤ 2^20) (hc : ∀ h : posM l x.vars < l.length, ¬ cmpL l[posM l x.vars].vars x.vars = 0) : FnS Try.prog 31 [(1, .box 28 [.os 3 l.length]), (3, .vec 57 2 l.length (l.flatMap eMono) true)] [.c (.rf 1 0), agT (eMono x)] [(1, .box 28 [.os 3 (l.length + 1)]), (3, .vec 57 2 (l.length + 1) ((l.take (posM l x.vars) ++ [x] ++ l.drop (posM l x.vars)).flatMap eMono) true)] (.tp []) := by
  refine FnS.go [0, 1, 3, 4, 5, 16] [] Try.func31 rfl (fun kt kz => ?_) (hodd := by refine oddS _ ?_; simp)
  have fcx := fc31A116
  simp only [Try.f31]
  have gH : decide (hitM l x.vars) = false := decide_eq_false fun ⟨h1, h2⟩ => hc h1 h2
  have hpl := posM_le (l := l) (v := x.vars)
  have HC : FnS Try.prog 64 [] [slT eS x.vars] [(2000, .row x.vars.length (x.vars.flatMap eS))] (.c (.os 2000 x.vars.length)) := (slCl_any x.vars hx 2000).rows
  have HI : FnS Try.prog 63 [(3, .vec 57 2 l.length (l.flatMap eMono) true), (84, .vec 57 2 1 (eMono x) true)] [.c (.os 3 l.length), iT (posM l x.vars), .c (.os 84 1)] [(3, .vec 57 2 (l.length + 1) ((l.take (posM l x.vars) ++ [x] ++ l.drop (posM l x.vars)).flatMap eMono) true)] (.c (.os 3 (l.length + 1))) := by
    obtain ⟨f, hf⟩ := pml [1, 3] [3, 84] (by decide) (by decide) rfl
    simp only [List.map_cons, List.map_nil, List.cons.injEq, and_true] at hf
    have := Try.insMono_ok l.length (posM l x.vars) (l.flatMap eMono) (eMono x) true hpl (by omega)
    rw [flat_insM] at this
    refine (this.renA f).asA ?_ ?_ ?_ ?_ <;> simp [renS, Ob.ren, TV.ren, renL, Cell.ren, hf]
  refine RunX (@eMono_eta) ?_; with_reducible repeat' (first | exact True.intro | refine Lf.mk ?_ ?_ | intro hb)
  refine Cal (@eMono_eta) (bsMono_of l (by omega) hm x.vars hA) ?_
  have dq : Dq [0, 1, 2, 3, 4, 5, 6, 7, 8, 9, 14, 15] [10, 11, 12, 13, 16] 40 [[0, 1, 2, 3, 4, 5, 6, 7, 14, 15], [0, 1, 2, 3, 4, 5, 14, 15], [0, 1, 2, 3, 4, 5, 14, 15], [0, 14, 15], []] := ⟨⟩
  refine RunX ((ai @eMono_eta @gH)) ?_; with_reducible repeat' (first | exact True.intro | refine Lf.mk ?_ ?_ | intro hb)
  refine Cal (@eMono_eta) (HC) ?_
  refine RunX (@eMono_eta) ?_; with_reducible repeat' (first | exact True.intro | refine Lf.mk ?_ ?_ | intro hb)
  refine CalO (@eMono_eta) (HI) ?_
  refine RunX (@eMono_eta) ?_; with_reducible repeat' (first | exact True.intro | refine Lf.mk ?_ ?_ | intro hb)

end Go.VC.T
/- Sums of polynomials: the program. -/
namespace Go.VC
open Go
def cat2 (xs ys : List Mono) (i : Nat) : List Mono := if i = 0 then [] else if i = 1 then xs else xs ++ ys
theorem cat2_1 (xs ys : List Mono) : cat2 xs ys 1 = xs := rfl
theorem cat2_2 (xs ys : List Mono) : cat2 xs ys 2 = xs ++ ys := rfl
end Go.VC
namespace Go.VC.T
open Go Go.VC Go.Proofs Go.VC.F
set_option linter.unusedSimpArgs false
set_option linter.unusedVariables false
set_option linter.defProp false
set_option maxRecDepth 100000
set_option maxHeartbeats 2000000
def fc30A117 := (ai (ai (ai (ai sz3 (ai ag3 zv3)) (ai un3 (ai sz4 ag4))) (ai (ai zv4 (ai un4 sz9)) (ai (ai ag9 zv9) (ai un9 sz26)))) (ai (ai (ai ag26 (ai zv26 sb26)) (ai (ai un26 el26) (ai ap26 sz97))) (ai (ai ag97 (ai zv97 sb97)) (ai (ai un97 el97) (ai ap97 okf60)))))
theorem concat2_of (xs ys : List Mono) (hx : xs.length ≤ 2^20) (hy : ys.length ≤ 2^20) : FnS Try.prog 30 [] [.c (.im (.sl 2 [.sl xs.length (xs.flatMap eMono), .sl ys.length (ys.flatMap eMono)]))] [(2000, .vec 57 2 (xs ++ ys).length ((xs ++ ys).flatMap eMono) false)] (.c (.os 2000 (xs ++ ys).length)) := by
  refine FnS.go [0, 2, 3, 5, 6, 8, 9, 10, 11, 12, 20, 25, 26, 27, 28] [] Try.func30 rfl (fun kt kz => ?_)
  have fcx := fc30A117
  simp only [Try.f30]
  have l0 : (cat2 xs ys 0).length = 0 := rfl
  have l2 : (cat2 xs ys 2).length = xs.length + ys.length := by rw [cat2_2, List.length_append]
  have hla : (xs ++ ys).length = xs.length + ys.length := List.length_append
  have f0 : (cat2 xs ys 0).flatMap eMono = [] := rfl
  have f2 : (cat2 xs ys 2).flatMap eMono = xs.flatMap eMono ++ ys.flatMap eMono := by rw [cat2_2, List.flatMap_append]
  have hfx : (xs.flatMap eMono).length = xs.length * 2 := flat_len' (z := 2)
  have hfy : (ys.flatMap eMono).length = ys.length * 2 := flat_len' (z := 2)
  have c0 : ((0 : Nat) : Int) = 0 := rfl
  have c1 : ((1 : Nat) : Int) = 1 := rfl
  have c2 : (0 : Int) + 1 + 1 = 2 := rfl
  have c3 : ((2 : Nat) : Int) = 2 := rfl
  refine Run (cast_succ) ?_; with_reducible repeat' (first | exact True.intro | refine Lf.mk ?_ ?_ | intro hb)
  refine Trn (α := Nat) [3, 5, 11, 12, 13, 14, 15, 16, 17, 18, 19, 20, 21, 22] (fun i => [(11, iT i), (3, iT ((cat2 xs ys i).length : Nat))]) (fun i => []) (fun i => i ≤ 2) (fun i => 2 - i) (0) (by omega) ((ai @l0 @c0)) ?_; intro lx hI; obtain i := lx; (try simp only [List.nil_append, List.cons_append] at hI ⊢)
  obtain h | h | h : lx = 0 ∨ lx = 1 ∨ lx = 2 := by omega
  · subst h
    have e1 : (0 : Int) + (xs.length : Int) = (xs.length : Int) := by omega
    have n1 : ¬ ((xs.length : Int) < 0) := by omega
    refine Run ((ai (ai @l0 (ai @e1 @n1)) (ai (ai @c0 @c1) (ai @c2 @c3)))) ?_; with_reducible repeat' (first | exact True.intro | refine Lf.mk ?_ ?_ | intro hb)
    exact Nxt ((ai (ai (cat2_1 xs ys) @e1) (ai @c0 (ai @c1 @c2)))) (1) (by omega) (by first | omega | (simp; omega))
  · subst h
    have n1 : ¬ ((xs.length : Int) + (ys.length : Int) < 0) := by omega
    refine Run ((ai (ai (cat2_1 xs ys) (ai @n1 @c0)) (ai @c1 (ai @c2 @c3)))) ?_; with_reducible repeat' (first | exact True.intro | refine Lf.mk ?_ ?_ | intro hb)
    exact Nxt ((ai (ai @l2 @c0) (ai @c1 (ai @c2 @c3)))) (2) (by omega) (by first | omega | (simp; omega))
  · subst h
    have hg := growMono_ok (xs.length + ys.length) (by omega) false 2000
    have e3 : ((xs.length + ys.length : Nat) : Int) = (xs.length : Int) + (ys.length : Int) := by omega
    refine Run ((ai (ai @l2 @c0) (ai @c1 (ai @c2 @c3)))) ?_; with_reducible repeat' (first | exact True.intro | refine Lf.mk ?_ ?_ | intro hb)

    refine CalO (cast_succ) (hg) ?_
    refine Run ((ai (ai @l2 @c0) (ai @c1 (ai @c2 @c3)))) ?_; with_reducible repeat' (first | exact True.intro | refine Lf.mk ?_ ?_ | intro hb)
    refine Trn (α := Nat) [6, 8, 27, 28, 29, 30, 31, 32, 33, 34] (fun i => [(27, iT i), (6, .c (.os 2000 (cat2 xs ys i).length))]) (fun i => [(2000, .vec 57 2 (cat2 xs ys i).length ((cat2 xs ys i).flatMap eMono) false)]) (fun i => i ≤ 2) (fun i => 2 - i) (0) (by omega) ((ai @l0 (ai @f0 @c0))) ?_; intro ly hJ; obtain i := ly; (try simp only [List.nil_append, List.cons_append] at hJ ⊢)
    obtain h | h | h : ly = 0 ∨ ly = 1 ∨ ly = 2 := by omega
    · subst h
      have h0 : 0 + xs.length = xs.length := by omega
      refine Run ((ai (ai (ai @l0 @f0) (ai @h0 @hfx)) (ai (ai @c0 @c1) (ai @c2 @c3)))) ?_; with_reducible repeat' (first | exact True.intro | refine Lf.mk ?_ ?_ | intro hb)
      exact Nxt ((ai (ai (cat2_1 xs ys) @h0) (ai @c0 (ai @c1 @c2)))) (1) (by omega) (by first | omega | (simp; omega))
    · subst h
      refine Run ((ai (ai (cat2_1 xs ys) (ai @hfy @c0)) (ai @c1 (ai @c2 @c3)))) ?_; with_reducible repeat' (first | exact True.intro | refine Lf.mk ?_ ?_ | intro hb)
      exact Nxt ((ai (ai @l2 (ai @f2 @c0)) (ai @c1 (ai @c2 @c3)))) (2) (by omega) (by first | omega | (simp; omega))
    · subst h
      have e2 := cat2_2 xs ys
      refine Run ((ai (ai @e2 @c0) (ai @c1 (ai @c2 @c3)))) ?_; with_reducible repeat' (first | exact True.intro | refine Lf.mk ?_ ?_ | intro hb)

end Go.VC.T
/- Sums of polynomials: the program, its sum. -/
namespace Go.VC
open Go
theorem ascM_nil : AscM [] := fun i j h => by simp at h
def sumM (a b : List Mono) (i : Nat) : List Mono := addAll [] ((a ++ b).take i)
theorem sumM_succ {a b : List Mono} {i : Nat} (h : i < (a ++ b).length) : sumM a b (i + 1) = addM (sumM a b i) (a ++ b)[i] := addAll_succ h
theorem sumM_all (a b : List Mono) : sumM a b (a ++ b).length = addAll [] (a ++ b) := by unfold sumM; rw [List.take_length]
theorem sumM_asc (a b : List Mono) (i : Nat) : AscM (sumM a b i) := addAll_asc ascM_nil
theorem sumM_len (a b : List Mono) (i : Nat) : (sumM a b i).length ≤ a.length + b.length := by
  have := addAll_len (l := []) (xs := (a ++ b).take i)
  have h2 : ((a ++ b).take i).length ≤ (a ++ b).length := by rw [List.length_take]; omega
  rw [List.length_append] at h2
  unfold sumM; simp at this; omega
theorem polyOk_mem {l : List Mono} (h : PolyOk l) {m : Mono} (hm : m ∈ l) : MonoOk m := h.1.1 m (by rw [List.take_length]; exact hm)
theorem sumM_bnd {a b : List Mono} (ha : PolyOk a) (hb : PolyOk b) (i : Nat) : ∀ m ∈ sumM a b i, (0 ≤ m.coef ∧ m.coef ≤ 400000000) ∧ m.vars.length ≤ 8 := fun m hm => by
  have h1 : ∀ m ∈ (a ++ b).take i, (0 ≤ m.coef ∧ m.coef ≤ (1000000 : Nat)) ∧ m.vars.length ≤ 8 := fun m hm => by
    have : MonoOk m := by
      rcases List.mem_append.1 (List.mem_of_mem_take hm) with h | h
      · exact polyOk_mem ha h
      · exact polyOk_mem hb h
    exact ⟨⟨by have := this.1; omega, by have := this.1; omega⟩, this.2.1⟩
  have h2 := addAll_bnd (l := []) (C := 1000000) (D := 0) (Q := fun v => v.length ≤ 8) h1 (fun m h => by cases h) (fun m h => by cases h) m hm
  have h3 : ((a ++ b).take i).length ≤ 400 := by
    have h4 : ((a ++ b).take i).length ≤ (a ++ b).length := by rw [List.length_take]; omega
    have := ha.2; have := hb.2
    rw [List.length_append] at h4; omega
  refine ⟨⟨h2.1.1, ?_⟩, h2.2⟩
  have h5 := h2.1.2
  omega
end Go.VC
namespace Go.VC.T
open Go Go.VC Go.Proofs Go.VC.F
set_option linter.unusedSimpArgs false
set_option linter.unusedVariables false
set_option linter.defProp false
set_option maxRecDepth 100000
set_option maxHeartbeats 2000000
theorem addMono_ok (l : List Mono) (hl : l.length ≤ 2^20) (hm : ∀ m ∈ l, m.vars.length ≤ 2^48) (hA : AscM l) (x : Mono) (hx : x.vars.length ≤ 2^20) (hb : ∀ m ∈ l, -9223372036854775808 ≤ m.coef + x.coef ∧ m.coef + x.coef ≤ 9223372036854775807) :
    FnS Try.prog 31 [(1, .box 28 [.os 3 l.length]), (3, .vec 57 2 l.length (l.flatMap eMono) true)] [.c (.rf 1 0), agT (eMono x)] [(1, .box 28 [.os 3 (addM l x).length]), (3, .vec 57 2 (addM l x).length ((addM l x).flatMap eMono) true)] (.tp []) := by
  by_cases hc : ∃ h : posM l x.vars < l.length, cmpL l[posM l x.vars].vars x.vars = 0
  · obtain ⟨hp, hc⟩ := hc
    rw [addM_is hp hc, List.length_set]
    exact addMono_is l hl hm hA x hp hc (hb _ (List.getElem_mem hp))
  · have hc' : ∀ h : posM l x.vars < l.length, ¬ cmpL l[posM l x.vars].vars x.vars = 0 := fun h1 h2 => hc ⟨h1, h2⟩
    have e : (l.take (posM l x.vars) ++ [x] ++ l.drop (posM l x.vars)).length = l.length + 1 := by
      have := posM_le (l := l) (v := x.vars)
      simp; omega
    rw [addM_no hc', e]
    exact addMono_no l hl hm hA x hx hc'
def fc32A118 := (ai (ai (ai sz4 ag4) (ai zv4 (ai un4 sz28))) (ai (ai ag28 (ai zv28 fl28_0)) (ai pl28 (ai okf29 sz26))))
theorem checked_y (l : List Mono) (h : okPoly (2^20) l) (hP : PolyOk l) : FnS Try.prog 32 [(1, .vec 57 2 l.length (l.flatMap eMono) true)] [.ag [.os 1 l.length]] [(1, .vec 57 2 l.length (l.flatMap eMono) true)] (.tp [.ag [.os 1 l.length], bT true]) := by
  refine FnS.go [0, 1, 2, 3, 6] [] Try.func32 rfl (fun kt kz => ?_)
  have fcx := fc32A118
  simp only [Try.f32]
  have gP := eq_true hP
  refine Run (@ePoly_eta) ?_; with_reducible repeat' (first | exact True.intro | refine Lf.mk ?_ ?_ | intro hb)
  refine Cal (@ePoly_eta) (implIsPoly_ok l h) ?_
  refine Run ((ai @ePoly_eta @gP)) ?_; with_reducible repeat' (first | exact True.intro | refine Lf.mk ?_ ?_ | intro hb)
theorem checked_n (l : List Mono) (h : okPoly (2^20) l) (hP : ¬ PolyOk l) : FnS Try.prog 32 [(1, .vec 57 2 l.length (l.flatMap eMono) true)] [.ag [.os 1 l.length]] [] (.tp [.ag [.nl], bT false]) := by
  refine FnS.go [0, 1, 2, 3, 6] [] Try.func32 rfl (fun kt kz => ?_)
  have fcx := fc32A118
  simp only [Try.f32]
  have gP := eq_false hP
  refine Run (@ePoly_eta) ?_; with_reducible repeat' (first | exact True.intro | refine Lf.mk ?_ ?_ | intro hb)
  refine Cal (@ePoly_eta) (implIsPoly_ok l h) ?_
  refine Run ((ai @ePoly_eta @gP)) ?_; with_reducible repeat' (first | exact True.intro | refine Lf.mk ?_ ?_ | intro hb)
def fc9A118 := (ai (ai (ai (ai (ai sz3 ag3) (ai zv3 un3)) (ai (ai sz4 ag4) (ai zv4 (ai un4 sz26)))) (ai (ai (ai ag26 zv26) (ai sb26 (ai un26 el26))) (ai (ai ap26 sz28) (ai ag28 (ai zv28 fl28_0))))) (ai (ai (ai (ai pl28 sz57) (ai ag57 zv57)) (ai (ai fl57_0 fl57_1) (ai pl57 (ai sz97 ag97)))) (ai (ai (ai zv97 sb97) (ai un97 (ai el97 ap97))) (ai (ai okf29 okf30) (ai okf31 (ai okf32 sz55))))))
theorem implAdd_y (a b : List Mono) (ha : okPoly (2^20) a) (hb' : okPoly (2^20) b) (hA : PolyOk a) (hB : PolyOk b) (ho : okPoly (2^20) (addAll [] (a ++ b))) (hP : PolyOk (addAll [] (a ++ b))) : FnS Try.prog 9 [] [agT (ePoly a), agT (ePoly b)] [(1000, .vec 57 2 (addAll [] (a ++ b)).length ((addAll [] (a ++ b)).flatMap eMono) true)] (.tp [.ag [.os 1000 (addAll [] (a ++ b)).length], bT true]) := by
  refine FnS.go [0, 1, 2, 3, 4, 5, 6, 8, 16, 24, 25, 26, 27] [] Try.func9 rfl (fun kt kz => ?_)
  have fcx := fc9A118
  simp only [Try.f9]
  have gA := eq_true hA
  have gB := eq_true hB
  have hla := hA.2
  have hlb := hB.2
  have hlen : (a ++ b).length = a.length + b.length := List.length_append
  have s0 : (sumM a b 0).length = 0 := rfl
  have f0 : (sumM a b 0).flatMap eMono = [] := rfl
  have sall := sumM_all a b
  have HCk : FnS Try.prog 32 [(1000, .vec 57 2 (addAll [] (a ++ b)).length ((addAll [] (a ++ b)).flatMap eMono) true)] [.ag [.os 1000 (addAll [] (a ++ b)).length]] [(1000, .vec 57 2 (addAll [] (a ++ b)).length ((addAll [] (a ++ b)).flatMap eMono) true)] (.tp [.ag [.os 1000 (addAll [] (a ++ b)).length], bT true]) := by
    obtain ⟨f, hf⟩ := pml [1] [1000] (by decide) (by decide) rfl
    simp only [List.map_cons, List.map_nil, List.cons.injEq, and_true] at hf
    refine ((checked_y _ ho hP).renA f).asA ?_ ?_ ?_ ?_ <;> simp [renS, Ob.ren, TV.ren, renL, Cell.ren, hf]
  refine Run (@ePoly_eta) ?_; with_reducible repeat' (first | exact True.intro | refine Lf.mk ?_ ?_ | intro hb)
  refine Cal (@ePoly_eta) (implIsPoly_ok a ha) ?_
  refine Run ((ai @ePoly_eta @gA)) ?_; with_reducible repeat' (first | exact True.intro | refine Lf.mk ?_ ?_ | intro hb)
  refine Cal (@ePoly_eta) (implIsPoly_ok b hb') ?_
  refine Run ((ai @ePoly_eta @gB)) ?_; with_reducible repeat' (first | exact True.intro | refine Lf.mk ?_ ?_ | intro hb)
  refine CallG.frz1 46 rfl ?_
  simp -dsimp (maxSteps := 2000000) (disch := omega) only [vs, ↓Option.bind_some, ev1, ofV, scalarB, Kn, Kb, calleeOf, evLoad, ptr, evField, evFieldAddr, shift, ↓pt_at, ↓pt_at1, evExtract, evBin, evLen, evConv, cellsT, noS, Cell.has, Cell.hasN, Cell.anyN, toIV, toIV0, toIVs, ownC, srcM, Ob.own, Ob.esz, allSc, nilK, lenC, ownCell, isPtr, ptrNil, frzO, Cell.frz, Cell.keys, ↓reduceIte, reduceCtorEq, Nat.reduceEqDiff, Nat.reduceBEq, Nat.reduceBNe, Nat.reduceAdd, Nat.reduceMul, Nat.reduceSub, Nat.reduceLT, Nat.reduceLeDiff, Nat.reducePow, Int.reduceLT, Int.reduceLE, Int.reduceEq, Int.reduceNe, quietB, Nat.reduceMod, Int.reduceToNat, ne_eq, eq_self, exists_const, evBytes, byRow, byL, byStr_size, ifsz, ByteArray.size_append, Option.none_or, Option.some_or, evLook, keyD, fc9A118, ePoly_eta]
  refine CalI (@ePoly_eta) (concat2_of a b (by omega) (by omega)) ?_
  refine Run (@ePoly_eta) ?_; with_reducible repeat' (first | exact True.intro | refine Lf.mk ?_ ?_ | intro hb)
  refine Sm.nlB (12) 0 (1000) (57) 2 true (by rfl) (by rfl) (by rfl) (by decide) (by rfl) (by rfl) (by decide) (by rfl) ?_; simp only [upd, List.set_cons_zero, List.set_cons_succ, ↓reduceIte, Nat.reduceEqDiff]
  refine Trn (α := Nat) [8, 26, 27, 28, 29, 30, 31, 32] (fun i => [(26, iT i)]) (fun i => [(4, .box 28 ((ePoly a).map .im)), (6, .box 28 ((ePoly b).map .im)), (8, .box 28 [.nl]), (12, .box 28 [.os 1000 (sumM a b i).length]), (1000, .vec 57 2 (sumM a b i).length ((sumM a b i).flatMap eMono) true), (2000, .vec 57 2 (a ++ b).length ((a ++ b).flatMap eMono) false)]) (fun i => i ≤ (a ++ b).length) (fun i => (a ++ b).length - i) (0) (Nat.zero_le _) ((ai @ePoly_eta (ai @s0 @f0))) ?_; intro lx hI; obtain i := lx; (try simp only [List.nil_append, List.cons_append] at hI ⊢)
  by_cases hlt : lx < (a ++ b).length
  · have hbn := sumM_bnd hA hB lx
    have hml := sumM_len a b lx
    have hx8 : MonoOk (a ++ b)[lx] := by
      rcases List.mem_append.1 (List.getElem_mem hlt) with h | h
      · exact polyOk_mem hA h
      · exact polyOk_mem hB h
    have hx1 := hx8.1
    have hx2 := hx8.2.1
    have HA : FnS Try.prog 31 [(12, .box 28 [.os 1000 (sumM a b lx).length]), (1000, .vec 57 2 (sumM a b lx).length ((sumM a b lx).flatMap eMono) true)] [.c (.rf 12 0), agT (eMono (a ++ b)[lx])] [(12, .box 28 [.os 1000 (sumM a b (lx + 1)).length]), (1000, .vec 57 2 (sumM a b (lx + 1)).length ((sumM a b (lx + 1)).flatMap eMono) true)] (.tp []) := by
      obtain ⟨f, hf⟩ := pml [1, 3] [12, 1000] (by decide) (by decide) rfl
      simp only [List.map_cons, List.map_nil, List.cons.injEq, and_true] at hf
      have := addMono_ok (sumM a b lx) (by omega) (fun m hm => by have := (hbn m hm).2; omega) (sumM_asc a b lx) (a ++ b)[lx] (by omega) (fun m hm => by have := (hbn m hm).1; omega)
      rw [← sumM_succ hlt] at this
      refine (this.renA f).asA ?_ ?_ ?_ ?_ <;> simp [renS, Ob.ren, TV.ren, renL, Cell.ren, hf, agT, eMono_eta, slI]
    have hld : (if lx * 2 + 2 ≤ (List.map Cell.im ((a ++ b).flatMap eMono)).length then some (TV.ag (List.take 2 (List.drop (lx * 2) (List.map Cell.im ((a ++ b).flatMap eMono))))) else none) = some (.ag [.im (.sc (.int .i64 (a ++ b)[lx].coef)), .im (.sl (a ++ b)[lx].vars.length ((a ++ b)[lx].vars.flatMap eS))]) := by
      rw [if_pos (by rw [List.length_map, flat_len' (z := 2)]; omega), ← List.map_drop, flat_drop_at hlt]
      rfl
    refine Run ((ai (ai @ePoly_eta @eMono_eta) (ai @hlt @hld))) ?_; with_reducible repeat' (first | exact True.intro | refine Lf.mk ?_ ?_ | intro hb)
    refine CalO ((ai @ePoly_eta @eMono_eta)) (HA) ?_
    refine Run ((ai @ePoly_eta (ai @eMono_eta @hlt))) ?_; with_reducible repeat' (first | exact True.intro | refine Lf.mk ?_ ?_ | intro hb)
    exact Nxt (@ePoly_eta) (lx + 1) (hlt) (by first | omega | (simp; omega))
  · obtain rfl : lx = (a ++ b).length := by omega
    refine Run ((ai @ePoly_eta (ai @hlt @sall))) ?_; with_reducible repeat' (first | exact True.intro | refine Lf.mk ?_ ?_ | intro hb)
    refine CalO (@ePoly_eta) (HCk) ?_
    refine Run (@ePoly_eta) ?_; with_reducible repeat' (first | exact True.intro | refine Lf.mk ?_ ?_ | intro hb)
    refine ⟨rfl, ?_⟩
    refine Run (@ePoly_eta) ?_; with_reducible repeat' (first | exact True.intro | refine Lf.mk ?_ ?_ | intro hb)
theorem implAdd_n (a b : List Mono) (ha : okPoly (2^20) a) (hb' : okPoly (2^20) b) (hA : PolyOk a) (hB : PolyOk b) (ho : okPoly (2^20) (addAll [] (a ++ b))) (hP : ¬ PolyOk (addAll [] (a ++ b))) : FnS Try.prog 9 [] [agT (ePoly a), agT (ePoly b)] [] (.tp [.ag [.nl], bT false]) := by
  refine FnS.go [0, 1, 2, 3, 4, 5, 6, 8, 16, 24, 25, 26, 27] [] Try.func9 rfl (fun kt kz => ?_)
  have fcx := fc9A118
  simp only [Try.f9]
  have gA := eq_true hA
  have gB := eq_true hB
  have hla := hA.2
  have hlb := hB.2
  have hlen : (a ++ b).length = a.length + b.length := List.length_append
  have s0 : (sumM a b 0).length = 0 := rfl
  have f0 : (sumM a b 0).flatMap eMono = [] := rfl
  have sall := sumM_all a b
  have HCk : FnS Try.prog 32 [(1000, .vec 57 2 (addAll [] (a ++ b)).length ((addAll [] (a ++ b)).flatMap eMono) true)] [.ag [.os 1000 (addAll [] (a ++ b)).length]] [] (.tp [.ag [.nl], bT false]) := by
    obtain ⟨f, hf⟩ := pml [1] [1000] (by decide) (by decide) rfl
    simp only [List.map_cons, List.map_nil, List.cons.injEq, and_true] at hf
    refine ((checked_n _ ho hP).renA f).asA ?_ ?_ ?_ ?_ <;> simp [renS, Ob.ren, TV.ren, renL, Cell.ren, hf]
  refine Run (@ePoly_eta) ?_; with_reducible repeat' (first | exact True.intro | refine Lf.mk ?_ ?_ | intro hb)
  refine Cal (@ePoly_eta) (implIsPoly_ok a ha) ?_
  refine Run ((ai @ePoly_eta @gA)) ?_; with_reducible repeat' (first | exact True.intro | refine Lf.mk ?_ ?_ | intro hb)
  refine Cal (@ePoly_eta) (implIsPoly_ok b hb') ?_
  refine Run ((ai @ePoly_eta @gB)) ?_; with_reducible repeat' (first | exact True.intro | refine Lf.mk ?_ ?_ | intro hb)
  refine CallG.frz1 46 rfl ?_
  simp -dsimp (maxSteps := 2000000) (disch := omega) only [vs, ↓Option.bind_some, ev1, ofV, scalarB, Kn, Kb, calleeOf, evLoad, ptr, evField, evFieldAddr, shift, ↓pt_at, ↓pt_at1, evExtract, evBin, evLen, evConv, cellsT, noS, Cell.has, Cell.hasN, Cell.anyN, toIV, toIV0, toIVs, ownC, srcM, Ob.own, Ob.esz, allSc, nilK, lenC, ownCell, isPtr, ptrNil, frzO, Cell.frz, Cell.keys, ↓reduceIte, reduceCtorEq, Nat.reduceEqDiff, Nat.reduceBEq, Nat.reduceBNe, Nat.reduceAdd, Nat.reduceMul, Nat.reduceSub, Nat.reduceLT, Nat.reduceLeDiff, Nat.reducePow, Int.reduceLT, Int.reduceLE, Int.reduceEq, Int.reduceNe, quietB, Nat.reduceMod, Int.reduceToNat, ne_eq, eq_self, exists_const, evBytes, byRow, byL, byStr_size, ifsz, ByteArray.size_append, Option.none_or, Option.some_or, evLook, keyD, fc9A118, ePoly_eta]
  refine CalI (@ePoly_eta) (concat2_of a b (by omega) (by omega)) ?_
  refine Run (@ePoly_eta) ?_; with_reducible repeat' (first | exact True.intro | refine Lf.mk ?_ ?_ | intro hb)
  refine Sm.nlB (12) 0 (1000) (57) 2 true (by rfl) (by rfl) (by rfl) (by decide) (by rfl) (by rfl) (by decide) (by rfl) ?_; simp only [upd, List.set_cons_zero, List.set_cons_succ, ↓reduceIte, Nat.reduceEqDiff]
  refine Trn (α := Nat) [8, 26, 27, 28, 29, 30, 31, 32] (fun i => [(26, iT i)]) (fun i => [(4, .box 28 ((ePoly a).map .im)), (6, .box 28 ((ePoly b).map .im)), (8, .box 28 [.nl]), (12, .box 28 [.os 1000 (sumM a b i).length]), (1000, .vec 57 2 (sumM a b i).length ((sumM a b i).flatMap eMono) true), (2000, .vec 57 2 (a ++ b).length ((a ++ b).flatMap eMono) false)]) (fun i => i ≤ (a ++ b).length) (fun i => (a ++ b).length - i) (0) (Nat.zero_le _) ((ai @ePoly_eta (ai @s0 @f0))) ?_; intro lx hI; obtain i := lx; (try simp only [List.nil_append, List.cons_append] at hI ⊢)
  by_cases hlt : lx < (a ++ b).length
  · have hbn := sumM_bnd hA hB lx
    have hml := sumM_len a b lx
    have hx8 : MonoOk (a ++ b)[lx] := by
      rcases List.mem_append.1 (List.getElem_mem hlt) with h | h
      · exact polyOk_mem hA h
      · exact polyOk_mem hB h
    have hx1 := hx8.1
    have hx2 := hx8.2.1
    have HA : FnS Try.prog 31 [(12, .box 28 [.os 1000 (sumM a b lx).length]), (1000, .vec 57 2 (sumM a b lx).length ((sumM a b lx).flatMap eMono) true)] [.c (.rf 12 0), agT (eMono (a ++ b)[lx])] [(12, .box 28 [.os 1000 (sumM a b (lx + 1)).length]), (1000, .vec 57 2 (sumM a b (lx + 1)).length ((sumM a b (lx + 1)).flatMap eMono) true)] (.tp []) := by
      obtain ⟨f, hf⟩ := pml [1, 3] [12, 1000] (by decide) (by decide) rfl
      simp only [List.map_cons, List.map_nil, List.cons.injEq, and_true] at hf
      have := addMono_ok (sumM a b lx) (by omega) (fun m hm => by have := (hbn m hm).2; omega) (sumM_asc a b lx) (a ++ b)[lx] (by omega) (fun m hm => by have := (hbn m hm).1; omega)
      rw [← sumM_succ hlt] at this
      refine (this.renA f).asA ?_ ?_ ?_ ?_ <;> simp [renS, Ob.ren, TV.ren, renL, Cell.ren, hf, agT, eMono_eta, slI]
    have hld : (if lx * 2 + 2 ≤ (List.map Cell.im ((a ++ b).flatMap eMono)).length then some (TV.ag (List.take 2 (List.drop (lx * 2) (List.map Cell.im ((a ++ b).flatMap eMono))))) else none) = some (.ag [.im (.sc (.int .i64 (a ++ b)[lx].coef)), .im (.sl (a ++ b)[lx].vars.length ((a ++ b)[lx].vars.flatMap eS))]) := by
      rw [if_pos (by rw [List.length_map, flat_len' (z := 2)]; omega), ← List.map_drop, flat_drop_at hlt]
      rfl
    refine Run ((ai (ai @ePoly_eta @eMono_eta) (ai @hlt @hld))) ?_; with_reducible repeat' (first | exact True.intro | refine Lf.mk ?_ ?_ | intro hb)
    refine CalO ((ai @ePoly_eta @eMono_eta)) (HA) ?_
    refine Run ((ai @ePoly_eta (ai @eMono_eta @hlt))) ?_; with_reducible repeat' (first | exact True.intro | refine Lf.mk ?_ ?_ | intro hb)
    exact Nxt (@ePoly_eta) (lx + 1) (hlt) (by first | omega | (simp; omega))
  · obtain rfl : lx = (a ++ b).length := by omega
    refine Run ((ai @ePoly_eta (ai @hlt @sall))) ?_; with_reducible repeat' (first | exact True.intro | refine Lf.mk ?_ ?_ | intro hb)
    refine CalO (@ePoly_eta) (HCk) ?_
    refine Run (@ePoly_eta) ?_; with_reducible repeat' (first | exact True.intro | refine Lf.mk ?_ ?_ | intro hb)
    refine ⟨rfl, ?_⟩
    refine Run (@ePoly_eta) ?_; with_reducible repeat' (first | exact True.intro | refine Lf.mk ?_ ?_ | intro hb)
theorem implAdd_a (a b : List Mono) (ha : okPoly (2^20) a) (hA : ¬ PolyOk a) : FnS Try.prog 9 [] [agT (ePoly a), agT (ePoly b)] [] (.tp [.ag [.nl], bT false]) := by
  refine FnS.go [0, 1, 2, 3, 4, 5, 6, 8, 16, 24, 25, 26, 27] [] Try.func9 rfl (fun kt kz => ?_)
  have fcx := fc9A118
  simp only [Try.f9]
  have gA := eq_false hA
  refine Run (@ePoly_eta) ?_; with_reducible repeat' (first | exact True.intro | refine Lf.mk ?_ ?_ | intro hb)
  refine Cal (@ePoly_eta) (implIsPoly_ok a ha) ?_
  refine Run ((ai @ePoly_eta @gA)) ?_; with_reducible repeat' (first | exact True.intro | refine Lf.mk ?_ ?_ | intro hb)
theorem implAdd_b (a b : List Mono) (ha : okPoly (2^20) a) (hb' : okPoly (2^20) b) (hA : PolyOk a) (hB : ¬ PolyOk b) : FnS Try.prog 9 [] [agT (ePoly a), agT (ePoly b)] [] (.tp [.ag [.nl], bT false]) := by
  refine FnS.go [0, 1, 2, 3, 4, 5, 6, 8, 16, 24, 25, 26, 27] [] Try.func9 rfl (fun kt kz => ?_)
  have fcx := fc9A118
  simp only [Try.f9]
  have gA := eq_true hA
  have gB := eq_false hB
  refine Run (@ePoly_eta) ?_; with_reducible repeat' (first | exact True.intro | refine Lf.mk ?_ ?_ | intro hb)
  refine Cal (@ePoly_eta) (implIsPoly_ok a ha) ?_
  refine Run ((ai @ePoly_eta @gA)) ?_; with_reducible repeat' (first | exact True.intro | refine Lf.mk ?_ ?_ | intro hb)
  refine Cal (@ePoly_eta) (implIsPoly_ok b hb') ?_
  refine Run ((ai @ePoly_eta @gB)) ?_; with_reducible repeat' (first | exact True.intro | refine Lf.mk ?_ ?_ | intro hb)

end Go.VC.T
