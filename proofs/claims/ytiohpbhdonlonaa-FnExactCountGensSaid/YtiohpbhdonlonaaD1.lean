/- The data of the program, as trees. -/
import Derived.Test.YtiohpbhdonlonaaW23
namespace Go.VC
open Go
/-- A type. -/
inductive Ty where
  | mk (kind : Int) (labels : List ByteArray) (args : List Ty)
  deriving Inhabited
def Ty.kind : Ty → Int | .mk k _ _ => k
def Ty.labels : Ty → List ByteArray | .mk _ l _ => l
def Ty.args : Ty → List Ty | .mk _ _ a => a
mutual
def eTy : Ty → List IV
  | .mk k l a => [.sc (.int .i64 k), slI eS l, .sl a.length (eTyL a)]
def eTyL : List Ty → List IV
  | [] => []
  | t :: r => eTy t ++ eTyL r
end
theorem eTyL_eq : ∀ (l : List Ty), eTyL l = l.flatMap eTy
  | [] => rfl
  | t :: r => by rw [eTyL, eTyL_eq r, List.flatMap_cons]
theorem eTy_eta (t : Ty) : eTy t = [.sc (.int .i64 t.kind), slI eS t.labels, slI eTy t.args] := by
  cases t with
  | mk k l a => rw [eTy, eTyL_eq]; rfl
instance : Wid eTy 3 := ⟨fun t => by rw [eTy_eta]; rfl⟩
/-- A value. -/
inductive Val where
  | mk (kind n : Int) (labels : List ByteArray) (args : List Val)
  deriving Inhabited
def Val.kind : Val → Int | .mk k _ _ _ => k
def Val.n : Val → Int | .mk _ n _ _ => n
def Val.labels : Val → List ByteArray | .mk _ _ l _ => l
def Val.args : Val → List Val | .mk _ _ _ a => a
mutual
def eVal : Val → List IV
  | .mk k n l a => [.sc (.int .i64 k), .sc (.int .i64 n), slI eS l, .sl a.length (eValL a)]
def eValL : List Val → List IV
  | [] => []
  | t :: r => eVal t ++ eValL r
end
theorem eValL_eq : ∀ (l : List Val), eValL l = l.flatMap eVal
  | [] => rfl
  | t :: r => by rw [eValL, eValL_eq r, List.flatMap_cons]
theorem eVal_eta (t : Val) : eVal t = [.sc (.int .i64 t.kind), .sc (.int .i64 t.n), slI eS t.labels, slI eVal t.args] := by
  cases t with
  | mk k n l a => rw [eVal, eValL_eq]; rfl
instance : Wid eVal 4 := ⟨fun t => by rw [eVal_eta]; rfl⟩
/-- A term. -/
inductive Tm where
  | mk (kind : Int) (name : ByteArray) (n : Int) (ty : Ty) (labels : List ByteArray) (args : List Tm)
  deriving Inhabited
def Tm.kind : Tm → Int | .mk k _ _ _ _ _ => k
def Tm.name : Tm → ByteArray | .mk _ s _ _ _ _ => s
def Tm.n : Tm → Int | .mk _ _ n _ _ _ => n
def Tm.ty : Tm → Ty | .mk _ _ _ t _ _ => t
def Tm.labels : Tm → List ByteArray | .mk _ _ _ _ l _ => l
def Tm.args : Tm → List Tm | .mk _ _ _ _ _ a => a
mutual
def eTm : Tm → List IV
  | .mk k s n t l a => [.sc (.int .i64 k), .sc (.string s), .sc (.int .i64 n), .sc (.int .i64 t.kind), slI eS t.labels, slI eTy t.args, slI eS l, .sl a.length (eTmL a)]
def eTmL : List Tm → List IV
  | [] => []
  | t :: r => eTm t ++ eTmL r
end
theorem eTmL_eq : ∀ (l : List Tm), eTmL l = l.flatMap eTm
  | [] => rfl
  | t :: r => by rw [eTmL, eTmL_eq r, List.flatMap_cons]
theorem eTm_eta (t : Tm) : eTm t = [.sc (.int .i64 t.kind), .sc (.string t.name), .sc (.int .i64 t.n), .sc (.int .i64 t.ty.kind), slI eS t.ty.labels, slI eTy t.ty.args, slI eS t.labels, slI eTm t.args] := by
  cases t with
  | mk k s n t l a => rw [eTm, eTmL_eq]; rfl
instance : Wid eTm 8 := ⟨fun t => by rw [eTm_eta]; rfl⟩
/-- A plan. -/
inductive Pl where
  | mk (kind : Int) (var table : ByteArray) (cond : Tm) (keys : List Tm) (args : List Pl)
  deriving Inhabited
def Pl.kind : Pl → Int | .mk k _ _ _ _ _ => k
def Pl.var : Pl → ByteArray | .mk _ s _ _ _ _ => s
def Pl.table : Pl → ByteArray | .mk _ _ s _ _ _ => s
def Pl.cond : Pl → Tm | .mk _ _ _ t _ _ => t
def Pl.keys : Pl → List Tm | .mk _ _ _ _ l _ => l
def Pl.args : Pl → List Pl | .mk _ _ _ _ _ a => a
mutual
def ePl : Pl → List IV
  | .mk k s u t l a => [.sc (.int .i64 k), .sc (.string s), .sc (.string u)] ++ eTm t ++ [slI eTm l, .sl a.length (ePlL a)]
def ePlL : List Pl → List IV
  | [] => []
  | t :: r => ePl t ++ ePlL r
end
theorem ePlL_eq : ∀ (l : List Pl), ePlL l = l.flatMap ePl
  | [] => rfl
  | t :: r => by rw [ePlL, ePlL_eq r, List.flatMap_cons]
theorem ePl_eta (t : Pl) : ePl t = [.sc (.int .i64 t.kind), .sc (.string t.var), .sc (.string t.table), .sc (.int .i64 t.cond.kind), .sc (.string t.cond.name), .sc (.int .i64 t.cond.n), .sc (.int .i64 t.cond.ty.kind), slI eS t.cond.ty.labels, slI eTy t.cond.ty.args, slI eS t.cond.labels, slI eTm t.cond.args, slI eTm t.keys, slI ePl t.args] := by
  cases t with
  | mk k s u t l a => rw [ePl, ePlL_eq, eTm_eta]; rfl
instance : Wid ePl 13 := ⟨fun t => by rw [ePl_eta]; rfl⟩
/-- Products; polynomials are lists of them. -/
structure Mono where
  coef : Int
  vars : List ByteArray
def eMono (a : Mono) : List IV := [.sc (.int .i64 a.coef), slI eS a.vars]
instance : Wid eMono 2 := ⟨fun _ => rfl⟩
structure Ann where
  value : Val
  poly : List Mono
def eAnn (a : Ann) : List IV := eVal a.value ++ [slI eMono a.poly]
theorem eAnn_eta (a : Ann) : eAnn a = [.sc (.int .i64 a.value.kind), .sc (.int .i64 a.value.n), slI eS a.value.labels, slI eVal a.value.args, slI eMono a.poly] := by rw [eAnn, eVal_eta]; rfl
instance : Wid eAnn 5 := ⟨fun t => by rw [eAnn_eta]; rfl⟩
structure Decl where
  name : ByteArray
  row : Ty
def eDecl (a : Decl) : List IV := .sc (.string a.name) :: eTy a.row
theorem eDecl_eta (a : Decl) : eDecl a = [.sc (.string a.name), .sc (.int .i64 a.row.kind), slI eS a.row.labels, slI eTy a.row.args] := by rw [eDecl, eTy_eta]
instance : Wid eDecl 4 := ⟨fun t => by rw [eDecl_eta]; rfl⟩
structure TData where
  name : ByteArray
  rows : List Val
def eTData (a : TData) : List IV := [.sc (.string a.name), slI eVal a.rows]
instance : Wid eTData 2 := ⟨fun _ => rfl⟩
structure Gn where
  var : ByteArray
  table : ByteArray
def eGn (a : Gn) : List IV := [.sc (.string a.var), .sc (.string a.table)]
instance : Wid eGn 2 := ⟨fun _ => rfl⟩
structure Vw where
  table : ByteArray
  cond : Tm
  cols : List ByteArray
  key : ByteArray
def eVw (a : Vw) : List IV := .sc (.string a.table) :: (eTm a.cond ++ [slI eS a.cols, .sc (.string a.key)])
theorem eVw_eta (a : Vw) : eVw a = [.sc (.string a.table), .sc (.int .i64 a.cond.kind), .sc (.string a.cond.name), .sc (.int .i64 a.cond.n), .sc (.int .i64 a.cond.ty.kind), slI eS a.cond.ty.labels, slI eTy a.cond.ty.args, slI eS a.cond.labels, slI eTm a.cond.args, slI eS a.cols, .sc (.string a.key)] := by rw [eVw, eTm_eta]; rfl
instance : Wid eVw 11 := ⟨fun t => by rw [eVw_eta]; rfl⟩
end Go.VC
