/- Flat data, as trees: no statement of a program. -/
import Derived.Test.YtiohpbhdonlonaaD6
set_option linter.unusedSimpArgs false
set_option linter.unusedVariables false
namespace Go.VC
open Go
/-- A flat comprehension. -/
structure FC where
  outer : Int
  outerGens : Int
  tag : Int
  gens : List Gn
  wh : Tm
  cols : List Tm
def eFC (a : FC) : List IV := [.sc (.int .i64 a.outer), .sc (.int .i64 a.outerGens), .sc (.int .i64 a.tag), slI eGn a.gens] ++ (eTm a.wh ++ ([slI eTm a.cols]))
theorem eFC_app (a : FC) : eFC a = [.sc (.int .i64 a.outer), .sc (.int .i64 a.outerGens), .sc (.int .i64 a.tag), slI eGn a.gens] ++ (eTm a.wh ++ ([slI eTm a.cols])) := rfl
theorem eFC_eta (a : FC) : eFC a = [.sc (.int .i64 a.outer), .sc (.int .i64 a.outerGens), .sc (.int .i64 a.tag), slI eGn a.gens, .sc (.int .i64 a.wh.kind), .sc (.string a.wh.name), .sc (.int .i64 a.wh.n), .sc (.int .i64 a.wh.ty.kind), slI eS a.wh.ty.labels, slI eTy a.wh.ty.args, slI eS a.wh.labels, slI eTm a.wh.args, slI eTm a.cols] := by rw [eFC, eTm_eta]; rfl
instance : Wid eFC 13 := ⟨fun t => by rw [eFC_eta]; rfl⟩
def okFC (b : Nat) (t : FC) : Prop := okL b (eFC t)
theorem okFC_fn : (fun b t => okL b (eFC t)) = okFC := rfl
def zFC (t : FC) : Nat := mL (eFC t)
theorem mFC_fn : (fun t => mL (eFC t)) = zFC := rfl
theorem okFC_down {B b : Nat} {t : FC} (h : okFC B t) (g : zFC t ≤ b) : okFC b t := okL_down h g
theorem okFC_iff {b : Nat} {t : FC} : okFC b t ↔ ok64 t.outer ∧ ok64 t.outerGens ∧ ok64 t.tag ∧ okLs b okGn t.gens ∧ okTm b t.wh ∧ okLs b okTm t.cols := by
  conv => lhs; unfold okFC
  rw [eFC_app]; simp only [okL_append, okL_cons, okL_nil, okI_int, okI_str, okI_L, okS_fn, okTy_fn, okVal_fn, okTm_fn, okPl_fn, okMono_fn, okAnn_fn, okDecl_fn, okTData_fn, okGn_fn, okHd_fn, okCmp_fn, okQr_fn, okFC_fn, and_true, true_and, and_assoc, okTm]
theorem zFC_eta (t : FC) : zFC t = zL zGn t.gens + zTm t.wh + zL zTm t.cols := by
  conv => lhs; unfold zFC
  rw [eFC_app]; simp only [mL_append, mL_cons, mL_nil, mI_int, mI_str, mI_L, mS_fn, mTy_fn, mVal_fn, mTm_fn, mPl_fn, mMono_fn, mAnn_fn, mDecl_fn, mTData_fn, mGn_fn, mHd_fn, mCmp_fn, mQr_fn, mFC_fn, zSL, Nat.zero_add, Nat.add_zero, Nat.add_assoc, zTm]
theorem FC.ext {t u : FC} (h0 : t.outer = u.outer) (h1 : t.outerGens = u.outerGens) (h2 : t.tag = u.tag) (h3 : t.gens = u.gens) (h4 : t.wh = u.wh) (h5 : t.cols = u.cols) : t = u := by cases t; cases u; simp_all
noncomputable instance : DecidableEq FC := fun a b => Classical.propDecidable _
/-- A flat query. -/
structure FQ where
  path : List ByteArray
  comps : List FC
def eFQ (a : FQ) : List IV := [slI eS a.path, slI eFC a.comps]
theorem eFQ_app (a : FQ) : eFQ a = [slI eS a.path, slI eFC a.comps] := rfl
theorem eFQ_eta (a : FQ) : eFQ a = [slI eS a.path, slI eFC a.comps] := by rfl
instance : Wid eFQ 2 := ⟨fun t => by rw [eFQ_eta]; rfl⟩
def okFQ (b : Nat) (t : FQ) : Prop := okL b (eFQ t)
theorem okFQ_fn : (fun b t => okL b (eFQ t)) = okFQ := rfl
def zFQ (t : FQ) : Nat := mL (eFQ t)
theorem mFQ_fn : (fun t => mL (eFQ t)) = zFQ := rfl
theorem okFQ_down {B b : Nat} {t : FQ} (h : okFQ B t) (g : zFQ t ≤ b) : okFQ b t := okL_down h g
theorem okFQ_iff {b : Nat} {t : FQ} : okFQ b t ↔ okLs b okS t.path ∧ okLs b okFC t.comps := by
  conv => lhs; unfold okFQ
  rw [eFQ_app]; simp only [okL_append, okL_cons, okL_nil, okI_int, okI_str, okI_L, okS_fn, okTy_fn, okVal_fn, okTm_fn, okPl_fn, okMono_fn, okAnn_fn, okDecl_fn, okTData_fn, okGn_fn, okHd_fn, okCmp_fn, okQr_fn, okFC_fn, okFQ_fn, and_true, true_and, and_assoc]
theorem zFQ_eta (t : FQ) : zFQ t = zSL t.path + zL zFC t.comps := by
  conv => lhs; unfold zFQ
  rw [eFQ_app]; simp only [mL_append, mL_cons, mL_nil, mI_int, mI_str, mI_L, mS_fn, mTy_fn, mVal_fn, mTm_fn, mPl_fn, mMono_fn, mAnn_fn, mDecl_fn, mTData_fn, mGn_fn, mHd_fn, mCmp_fn, mQr_fn, mFC_fn, mFQ_fn, zSL, Nat.zero_add, Nat.add_zero, Nat.add_assoc]
theorem FQ.ext {t u : FQ} (h0 : t.path = u.path) (h1 : t.comps = u.comps) : t = u := by cases t; cases u; simp_all
noncomputable instance : DecidableEq FQ := fun a b => Classical.propDecidable _
end Go.VC
