/- Heads, comprehensions, queries, as trees: no statement of a program. -/
import Derived.Test.YtiohpbhdonlonaaD3
set_option linter.unusedSimpArgs false
set_option linter.unusedVariables false
namespace Go.VC
open Go
mutual
/-- A head. -/
inductive Hd where
  | mk (kind : Int) (term : Tm) (labels : List ByteArray) (parts : List Hd) (query : List Cmp)
/-- A comprehension. -/
inductive Cmp where
  | mk (gens : List Gn) (wh : Tm) (head : Hd)
end
def Hd.kind : Hd → Int | .mk k _ _ _ _ => k
def Hd.term : Hd → Tm | .mk _ t _ _ _ => t
def Hd.labels : Hd → List ByteArray | .mk _ _ l _ _ => l
def Hd.parts : Hd → List Hd | .mk _ _ _ p _ => p
def Hd.query : Hd → List Cmp | .mk _ _ _ _ q => q
def Cmp.gens : Cmp → List Gn | .mk g _ _ => g
def Cmp.wh : Cmp → Tm | .mk _ w _ => w
def Cmp.head : Cmp → Hd | .mk _ _ h => h
instance : Inhabited Hd := ⟨.mk 0 default [] [] []⟩
instance : Inhabited Cmp := ⟨.mk [] default default⟩
mutual
def eHd : Hd → List IV
  | .mk k t l p q => [.sc (.int .i64 k)] ++ (eTm t ++ [slI eS l, .sl p.length (eHdL p), .sl q.length (eCmpL q)])
def eHdL : List Hd → List IV
  | [] => []
  | t :: r => eHd t ++ eHdL r
def eCmp : Cmp → List IV
  | .mk g w h => [slI eGn g] ++ (eTm w ++ eHd h)
def eCmpL : List Cmp → List IV
  | [] => []
  | t :: r => eCmp t ++ eCmpL r
end
theorem eHdL_eq : ∀ (l : List Hd), eHdL l = l.flatMap eHd
  | [] => by rw [eHdL]; rfl
  | t :: r => by rw [eHdL, eHdL_eq r, List.flatMap_cons]
theorem eCmpL_eq : ∀ (l : List Cmp), eCmpL l = l.flatMap eCmp
  | [] => by rw [eCmpL]; rfl
  | t :: r => by rw [eCmpL, eCmpL_eq r, List.flatMap_cons]
theorem eHd_app (t : Hd) : eHd t = [.sc (.int .i64 t.kind)] ++ (eTm t.term ++ ([slI eS t.labels, slI eHd t.parts, slI eCmp t.query])) := by
  cases t with
  | mk k t l p q => rw [eHd, eHdL_eq, eCmpL_eq]; rfl
theorem eCmp_app (t : Cmp) : eCmp t = [slI eGn t.gens] ++ (eTm t.wh ++ (eHd t.head)) := by
  cases t with
  | mk g w h => rw [eCmp]; rfl
theorem eHd_eta (t : Hd) : eHd t = [.sc (.int .i64 t.kind), .sc (.int .i64 t.term.kind), .sc (.string t.term.name), .sc (.int .i64 t.term.n), .sc (.int .i64 t.term.ty.kind), slI eS t.term.ty.labels, slI eTy t.term.ty.args, slI eS t.term.labels, slI eTm t.term.args, slI eS t.labels, slI eHd t.parts, slI eCmp t.query] := by rw [eHd_app, eTm_eta]; rfl
theorem eCmp_eta (t : Cmp) : eCmp t = [slI eGn t.gens, .sc (.int .i64 t.wh.kind), .sc (.string t.wh.name), .sc (.int .i64 t.wh.n), .sc (.int .i64 t.wh.ty.kind), slI eS t.wh.ty.labels, slI eTy t.wh.ty.args, slI eS t.wh.labels, slI eTm t.wh.args, .sc (.int .i64 t.head.kind), .sc (.int .i64 t.head.term.kind), .sc (.string t.head.term.name), .sc (.int .i64 t.head.term.n), .sc (.int .i64 t.head.term.ty.kind), slI eS t.head.term.ty.labels, slI eTy t.head.term.ty.args, slI eS t.head.term.labels, slI eTm t.head.term.args, slI eS t.head.labels, slI eHd t.head.parts, slI eCmp t.head.query] := by rw [eCmp_app, eTm_eta, eHd_eta]; rfl
instance : Wid eHd 12 := ⟨fun t => by rw [eHd_eta]; rfl⟩
instance : Wid eCmp 21 := ⟨fun t => by rw [eCmp_eta]; rfl⟩
def okHd (b : Nat) (t : Hd) : Prop := okL b (eHd t)
theorem okHd_fn : (fun b t => okL b (eHd t)) = okHd := rfl
def zHd (t : Hd) : Nat := mL (eHd t)
theorem mHd_fn : (fun t => mL (eHd t)) = zHd := rfl
theorem okHd_down {B b : Nat} {t : Hd} (h : okHd B t) (g : zHd t ≤ b) : okHd b t := okL_down h g
def okCmp (b : Nat) (t : Cmp) : Prop := okL b (eCmp t)
theorem okCmp_fn : (fun b t => okL b (eCmp t)) = okCmp := rfl
def zCmp (t : Cmp) : Nat := mL (eCmp t)
theorem mCmp_fn : (fun t => mL (eCmp t)) = zCmp := rfl
theorem okCmp_down {B b : Nat} {t : Cmp} (h : okCmp B t) (g : zCmp t ≤ b) : okCmp b t := okL_down h g
theorem okHd_iff {b : Nat} {t : Hd} : okHd b t ↔ ok64 t.kind ∧ okTm b t.term ∧ okLs b okS t.labels ∧ okLs b okHd t.parts ∧ okLs b okCmp t.query := by
  conv => lhs; unfold okHd
  rw [eHd_app]; simp only [okL_append, okL_cons, okL_nil, okI_int, okI_str, okI_L, okS_fn, okTy_fn, okVal_fn, okTm_fn, okPl_fn, okMono_fn, okAnn_fn, okDecl_fn, okTData_fn, okGn_fn, okHd_fn, okCmp_fn, and_true, true_and, and_assoc, okTm]
theorem zHd_eta (t : Hd) : zHd t = zTm t.term + zSL t.labels + zL zHd t.parts + zL zCmp t.query := by
  conv => lhs; unfold zHd
  rw [eHd_app]; simp only [mL_append, mL_cons, mL_nil, mI_int, mI_str, mI_L, mS_fn, mTy_fn, mVal_fn, mTm_fn, mPl_fn, mMono_fn, mAnn_fn, mDecl_fn, mTData_fn, mGn_fn, mHd_fn, mCmp_fn, zSL, Nat.zero_add, Nat.add_zero, Nat.add_assoc, zTm]
theorem okCmp_iff {b : Nat} {t : Cmp} : okCmp b t ↔ okLs b okGn t.gens ∧ okTm b t.wh ∧ okHd b t.head := by
  conv => lhs; unfold okCmp
  rw [eCmp_app]; simp only [okL_append, okL_cons, okL_nil, okI_int, okI_str, okI_L, okS_fn, okTy_fn, okVal_fn, okTm_fn, okPl_fn, okMono_fn, okAnn_fn, okDecl_fn, okTData_fn, okGn_fn, okHd_fn, okCmp_fn, and_true, true_and, and_assoc, okTm, okHd]
theorem zCmp_eta (t : Cmp) : zCmp t = zL zGn t.gens + zTm t.wh + zHd t.head := by
  conv => lhs; unfold zCmp
  rw [eCmp_app]; simp only [mL_append, mL_cons, mL_nil, mI_int, mI_str, mI_L, mS_fn, mTy_fn, mVal_fn, mTm_fn, mPl_fn, mMono_fn, mAnn_fn, mDecl_fn, mTData_fn, mGn_fn, mHd_fn, mCmp_fn, zSL, Nat.zero_add, Nat.add_zero, Nat.add_assoc, zTm, zHd]
/-- A query: its comprehensions. -/
def eQr (l : List Cmp) : List IV := [slI eCmp l]
theorem eQr_eta (l : List Cmp) : eQr l = [slI eCmp l] := rfl
instance : Wid eQr 1 := ⟨fun _ => rfl⟩
def okQr (b : Nat) (t : List Cmp) : Prop := okL b (eQr t)
theorem okQr_fn : (fun b t => okL b (eQr t)) = okQr := rfl
def zQr (t : List Cmp) : Nat := mL (eQr t)
theorem mQr_fn : (fun t => mL (eQr t)) = zQr := rfl
theorem okQr_down {B b : Nat} {t : List Cmp} (h : okQr B t) (g : zQr t ≤ b) : okQr b t := okL_down h g
theorem okQr_iff {b : Nat} {t : List Cmp} : okQr b t ↔ okLs b okCmp t := by
  conv => lhs; unfold okQr
  rw [eQr]; simp only [okL_cons, okL_nil, okI_L, okCmp_fn, and_true]
theorem zQr_eta (t : List Cmp) : zQr t = zL zCmp t := by
  conv => lhs; unfold zQr
  rw [eQr]; simp only [mL_cons, mL_nil, mI_L, mCmp_fn, Nat.add_zero]
theorem okHd_iff' {b : Nat} {t : Hd} : okHd b t ↔ ok64 t.kind ∧ okTm b t.term ∧ okLs b okS t.labels ∧ okLs b okHd t.parts ∧ okQr b t.query := by rw [okHd_iff, okQr_iff]
theorem zHd_eta' (t : Hd) : zHd t = zTm t.term + zSL t.labels + zL zHd t.parts + zQr t.query := by rw [zHd_eta, zQr_eta]
theorem Hd.ext {t u : Hd} (h1 : t.kind = u.kind) (h2 : t.term = u.term) (h3 : t.labels = u.labels) (h4 : t.parts = u.parts) (h5 : t.query = u.query) : t = u := by
  cases t; cases u; simp_all [Hd.kind, Hd.term, Hd.labels, Hd.parts, Hd.query]
theorem Cmp.ext {t u : Cmp} (h1 : t.gens = u.gens) (h2 : t.wh = u.wh) (h3 : t.head = u.head) : t = u := by
  cases t; cases u; simp_all [Cmp.gens, Cmp.wh, Cmp.head]
noncomputable instance : DecidableEq Hd := fun a b => Classical.propDecidable _
noncomputable instance : DecidableEq Cmp := fun a b => Classical.propDecidable _
theorem Hd.memP {t u : Hd} (h : u ∈ t.parts) : SizeOf.sizeOf u < SizeOf.sizeOf t := by
  cases t with
  | mk k t l p q => have := List.sizeOf_lt_of_mem h; simp only [Hd.mk.sizeOf_spec, Hd.parts] at *; omega
theorem Hd.memQ {t : Hd} {c : Cmp} (h : c ∈ t.query) : SizeOf.sizeOf c < SizeOf.sizeOf t := by
  cases t with
  | mk k t l p q => have := List.sizeOf_lt_of_mem h; simp only [Hd.mk.sizeOf_spec, Hd.query] at *; omega
theorem Cmp.memH (c : Cmp) : SizeOf.sizeOf c.head < SizeOf.sizeOf c := by
  cases c with
  | mk g w h => simp only [Cmp.mk.sizeOf_spec, Cmp.head]; omega
end Go.VC
