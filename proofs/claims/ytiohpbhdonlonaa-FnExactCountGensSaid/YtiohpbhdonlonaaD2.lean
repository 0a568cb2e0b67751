/- How much a datum counts, when it is measured: no statement of a program. -/
import Derived.Test.YtiohpbhdonlonaaD1
set_option linter.unusedSimpArgs false
set_option linter.unusedVariables false
namespace Go.VC
open Go
/-- What is left after taking. -/
def szR (n : Nat) (left : Int) : Int := if (n : Int) ≤ left then left - n else -1
theorem szR_add (n m : Nat) (l : Int) : szR m (szR n l) = szR (n + m) l := by
  unfold szR
  split <;> split <;> split <;> omega
theorem szR_le {n : Nat} {l : Int} (h : 0 ≤ l) : -1 ≤ szR n l ∧ szR n l ≤ l := by unfold szR; split <;> omega
theorem szR_sub {n : Nat} {l : Int} (h : 0 ≤ l - n) : l - n = szR n l := by unfold szR; rw [if_pos (by omega)]
theorem szR_neg {n m : Nat} {l : Int} (h : szR n l < 0) (hm : n ≤ m) : szR m l = -1 := by unfold szR at h ⊢; split at h <;> split <;> omega
theorem szR_nil {n m : Nat} {l : Int} (h : l - n < 0) (hm : n ≤ m) : szR m l = -1 := by unfold szR; split <;> omega
theorem szR_fits {n : Nat} {l : Int} (h : 0 ≤ szR n l) : (n : Int) ≤ l := by unfold szR at h; split at h <;> omega
theorem szR_spec (n : Nat) (l : Int) : ((n : Int) ≤ l ∧ szR n l = l - n) ∨ (l < n ∧ szR n l = -1) := by unfold szR; split <;> omega
def zL {α : Type} (z : α → Nat) (l : List α) : Nat := l.length + (l.map z).sum
def zT {α : Type} (z : α → Nat) (l : List α) (i : Nat) : Nat := l.length + ((l.take i).map z).sum
theorem zT_zero {α : Type} {z : α → Nat} {l : List α} : zT z l 0 = l.length := by simp [zT]
theorem zT_all {α : Type} {z : α → Nat} {l : List α} {i : Nat} (h : l.length ≤ i) : zT z l i = zL z l := by rw [zT, List.take_of_length_le h, zL]
theorem zT_succ {α : Type} {z : α → Nat} {l : List α} {i : Nat} (h : i < l.length) : zT z l (i + 1) = zT z l i + z l[i] := by
  rw [zT, zT, List.take_succ_eq_append_getElem h, List.map_append, List.sum_append]; simp; omega
theorem sum_take_le {α : Type} {z : α → Nat} : ∀ {l : List α} {i : Nat}, ((l.take i).map z).sum ≤ (l.map z).sum
  | [], i => by simp
  | a :: r, 0 => by simp
  | a :: r, i + 1 => by
    have := sum_take_le (z := z) (l := r) (i := i)
    simp only [List.take_succ_cons, List.map_cons, List.sum_cons]; omega
theorem zT_le {α : Type} {z : α → Nat} {l : List α} {i : Nat} : zT z l i ≤ zL z l := by unfold zT zL; have := sum_take_le (z := z) (l := l) (i := i); omega
theorem zL_len {α : Type} {z : α → Nat} {l : List α} : l.length ≤ zL z l := by unfold zL; omega
theorem zL_mem {α : Type} {z : α → Nat} {l : List α} {x : α} (h : x ∈ l) : z x ≤ zL z l := by
  unfold zL
  induction l with
  | nil => cases h
  | cons a r ih =>
    rcases List.mem_cons.1 h with rfl | h
    · simp only [List.map_cons, List.sum_cons]; omega
    · have := ih h; simp only [List.map_cons, List.sum_cons, List.length_cons] at *; omega
def zS (s : ByteArray) : Nat := s.size
abbrev zSL (l : List ByteArray) : Nat := zL zS l
def okS (b : Nat) (s : ByteArray) : Prop := s.size ≤ b
def ok64 (n : Int) : Prop := -9223372036854775808 ≤ n ∧ n ≤ 9223372036854775807
def okLs {α : Type} (b : Nat) (ok : Nat → α → Prop) (l : List α) : Prop := l.length ≤ b ∧ ∀ s ∈ l, ok b s
theorem okI_int {b : Nat} {n : Int} : okI b (.sc (.int .i64 n)) ↔ ok64 n := by simp [okI, okV, ok64, IntKind.min, IntKind.max, IntKind.signed, IntKind.bits]
theorem okI_str {b : Nat} {s : ByteArray} : okI b (.sc (.string s)) ↔ okS b s := by simp [okI, okV, okS]
theorem okI_L {b : Nat} {α : Type} {E : α → List IV} {l : List α} : okI b (slI E l) ↔ okLs b (fun b t => okL b (E t)) l := by simp [okI_slI, okLs]
theorem okL_nil {b : Nat} : okL b [] ↔ True := by simp [okL]
theorem okL_cons {b : Nat} {x : IV} {r : List IV} : okL b (x :: r) ↔ okI b x ∧ okL b r := by simp [okL]
theorem okS_fn : (fun b s => okL b (eS s)) = okS := by funext b s; simp [eS, okL_cons, okL_nil, okI_str]
theorem mI_int {n : Int} {k : IntKind} : mI (.sc (.int k n)) = 0 := by simp [mI, mV]
theorem mI_str {s : ByteArray} : mI (.sc (.string s)) = zS s := by simp [mI, mV, zS]
theorem mI_L {α : Type} {E : α → List IV} {l : List α} : mI (slI E l) = zL (fun x => mL (E x)) l := by rw [mI_slI, zL]
theorem mL_nil : mL [] = 0 := by simp [mL]
theorem mL_cons {x : IV} {r : List IV} : mL (x :: r) = mI x + mL r := by simp [mL]
theorem mS_fn : (fun s => mL (eS s)) = zS := by funext s; simp [eS, mL_cons, mL_nil, mI_str]
theorem okLs_at {α : Type} {b : Nat} {ok : Nat → α → Prop} {l : List α} (h : okLs b ok l) {i : Nat} (hi : i < l.length) : ok b l[i] := h.2 _ (List.getElem_mem hi)
def okTy (b : Nat) (t : Ty) : Prop := okL b (eTy t)
theorem okTy_fn : (fun b t => okL b (eTy t)) = okTy := rfl
def zTy (t : Ty) : Nat := mL (eTy t)
theorem mTy_fn : (fun t => mL (eTy t)) = zTy := rfl
theorem okTy_down {B b : Nat} {t : Ty} (h : okTy B t) (g : zTy t ≤ b) : okTy b t := okL_down h g
theorem okTy_iff {b : Nat} {t : Ty} : okTy b t ↔ ok64 t.kind ∧ okLs b okS t.labels ∧ okLs b okTy t.args := by
  conv => lhs; unfold okTy
  rw [eTy_eta]; simp only [okL_cons, okL_nil, okI_int, okI_str, okI_L, okS_fn, okTy_fn, and_true, and_assoc]
theorem zTy_eta (t : Ty) : zTy t = zSL t.labels + zL zTy t.args := by
  conv => lhs; unfold zTy
  rw [eTy_eta]; simp only [mL_cons, mL_nil, mI_int, mI_str, mI_L, mS_fn, mTy_fn, zSL, Nat.zero_add, Nat.add_zero, Nat.add_assoc]
def okVal (b : Nat) (t : Val) : Prop := okL b (eVal t)
theorem okVal_fn : (fun b t => okL b (eVal t)) = okVal := rfl
def zVal (t : Val) : Nat := mL (eVal t)
theorem mVal_fn : (fun t => mL (eVal t)) = zVal := rfl
theorem okVal_down {B b : Nat} {t : Val} (h : okVal B t) (g : zVal t ≤ b) : okVal b t := okL_down h g
theorem okVal_iff {b : Nat} {t : Val} : okVal b t ↔ ok64 t.kind ∧ ok64 t.n ∧ okLs b okS t.labels ∧ okLs b okVal t.args := by
  conv => lhs; unfold okVal
  rw [eVal_eta]; simp only [okL_cons, okL_nil, okI_int, okI_str, okI_L, okS_fn, okTy_fn, okVal_fn, and_true, and_assoc]
theorem zVal_eta (t : Val) : zVal t = zSL t.labels + zL zVal t.args := by
  conv => lhs; unfold zVal
  rw [eVal_eta]; simp only [mL_cons, mL_nil, mI_int, mI_str, mI_L, mS_fn, mTy_fn, mVal_fn, zSL, Nat.zero_add, Nat.add_zero, Nat.add_assoc]
def okTm (b : Nat) (t : Tm) : Prop := okL b (eTm t)
theorem okTm_fn : (fun b t => okL b (eTm t)) = okTm := rfl
def zTm (t : Tm) : Nat := mL (eTm t)
theorem mTm_fn : (fun t => mL (eTm t)) = zTm := rfl
theorem okTm_down {B b : Nat} {t : Tm} (h : okTm B t) (g : zTm t ≤ b) : okTm b t := okL_down h g
theorem okTm_iff {b : Nat} {t : Tm} : okTm b t ↔ ok64 t.kind ∧ okS b t.name ∧ ok64 t.n ∧ okTy b t.ty ∧ okLs b okS t.labels ∧ okLs b okTm t.args := by
  conv => lhs; unfold okTm
  rw [eTm_eta, okTy_iff]; simp only [okL_cons, okL_nil, okI_int, okI_str, okI_L, okS_fn, okTy_fn, okVal_fn, okTm_fn, and_true, and_assoc]
theorem zTm_eta (t : Tm) : zTm t = zS t.name + zTy t.ty + zSL t.labels + zL zTm t.args := by
  conv => lhs; unfold zTm
  rw [eTm_eta, zTy_eta]; simp only [mL_cons, mL_nil, mI_int, mI_str, mI_L, mS_fn, mTy_fn, mVal_fn, mTm_fn, zSL, Nat.zero_add, Nat.add_zero, Nat.add_assoc]
def okPl (b : Nat) (t : Pl) : Prop := okL b (ePl t)
theorem okPl_fn : (fun b t => okL b (ePl t)) = okPl := rfl
def zPl (t : Pl) : Nat := mL (ePl t)
theorem mPl_fn : (fun t => mL (ePl t)) = zPl := rfl
theorem okPl_down {B b : Nat} {t : Pl} (h : okPl B t) (g : zPl t ≤ b) : okPl b t := okL_down h g
theorem okPl_iff {b : Nat} {t : Pl} : okPl b t ↔ ok64 t.kind ∧ okS b t.var ∧ okS b t.table ∧ okTm b t.cond ∧ okLs b okTm t.keys ∧ okLs b okPl t.args := by
  conv => lhs; unfold okPl
  rw [ePl_eta, okTm_iff, okTy_iff]; simp only [okL_cons, okL_nil, okI_int, okI_str, okI_L, okS_fn, okTy_fn, okVal_fn, okTm_fn, okPl_fn, and_true, and_assoc]
theorem zPl_eta (t : Pl) : zPl t = zS t.var + zS t.table + zTm t.cond + zL zTm t.keys + zL zPl t.args := by
  conv => lhs; unfold zPl
  rw [ePl_eta, zTm_eta, zTy_eta]; simp only [mL_cons, mL_nil, mI_int, mI_str, mI_L, mS_fn, mTy_fn, mVal_fn, mTm_fn, mPl_fn, zSL, Nat.zero_add, Nat.add_zero, Nat.add_assoc]
def okMono (b : Nat) (t : Mono) : Prop := okL b (eMono t)
theorem okMono_fn : (fun b t => okL b (eMono t)) = okMono := rfl
def zMono (t : Mono) : Nat := mL (eMono t)
theorem mMono_fn : (fun t => mL (eMono t)) = zMono := rfl
theorem okMono_down {B b : Nat} {t : Mono} (h : okMono B t) (g : zMono t ≤ b) : okMono b t := okL_down h g
theorem okMono_iff {b : Nat} {t : Mono} : okMono b t ↔ ok64 t.coef ∧ okLs b okS t.vars := by
  conv => lhs; unfold okMono
  rw [eMono]; simp only [okL_cons, okL_nil, okI_int, okI_str, okI_L, okS_fn, okTy_fn, okVal_fn, okTm_fn, okPl_fn, okMono_fn, and_true, and_assoc]
theorem zMono_eta (t : Mono) : zMono t = zSL t.vars := by
  conv => lhs; unfold zMono
  rw [eMono]; simp only [mL_cons, mL_nil, mI_int, mI_str, mI_L, mS_fn, mTy_fn, mVal_fn, mTm_fn, mPl_fn, mMono_fn, zSL, Nat.zero_add, Nat.add_zero, Nat.add_assoc]
def okAnn (b : Nat) (t : Ann) : Prop := okL b (eAnn t)
theorem okAnn_fn : (fun b t => okL b (eAnn t)) = okAnn := rfl
def zAnn (t : Ann) : Nat := mL (eAnn t)
theorem mAnn_fn : (fun t => mL (eAnn t)) = zAnn := rfl
theorem okAnn_down {B b : Nat} {t : Ann} (h : okAnn B t) (g : zAnn t ≤ b) : okAnn b t := okL_down h g
theorem okAnn_iff0 {b : Nat} {t : Ann} : okAnn b t ↔ okVal b t.value ∧ okLs b okMono t.poly := by
  conv => lhs; unfold okAnn
  rw [eAnn_eta, okVal_iff]; simp only [okL_cons, okL_nil, okI_int, okI_str, okI_L, okS_fn, okTy_fn, okVal_fn, okTm_fn, okPl_fn, okMono_fn, okAnn_fn, and_true, and_assoc]
theorem zAnn_eta0 (t : Ann) : zAnn t = zVal t.value + zL zMono t.poly := by
  conv => lhs; unfold zAnn
  rw [eAnn_eta, zVal_eta]; simp only [mL_cons, mL_nil, mI_int, mI_str, mI_L, mS_fn, mTy_fn, mVal_fn, mTm_fn, mPl_fn, mMono_fn, mAnn_fn, zSL, Nat.zero_add, Nat.add_zero, Nat.add_assoc]
def okDecl (b : Nat) (t : Decl) : Prop := okL b (eDecl t)
theorem okDecl_fn : (fun b t => okL b (eDecl t)) = okDecl := rfl
def zDecl (t : Decl) : Nat := mL (eDecl t)
theorem mDecl_fn : (fun t => mL (eDecl t)) = zDecl := rfl
theorem okDecl_down {B b : Nat} {t : Decl} (h : okDecl B t) (g : zDecl t ≤ b) : okDecl b t := okL_down h g
theorem okDecl_iff {b : Nat} {t : Decl} : okDecl b t ↔ okS b t.name ∧ okTy b t.row := by
  conv => lhs; unfold okDecl
  rw [eDecl_eta, okTy_iff]; simp only [okL_cons, okL_nil, okI_int, okI_str, okI_L, okS_fn, okTy_fn, okVal_fn, okTm_fn, okPl_fn, okMono_fn, okAnn_fn, okDecl_fn, and_true, and_assoc]
theorem zDecl_eta (t : Decl) : zDecl t = zS t.name + zTy t.row := by
  conv => lhs; unfold zDecl
  rw [eDecl_eta, zTy_eta]; simp only [mL_cons, mL_nil, mI_int, mI_str, mI_L, mS_fn, mTy_fn, mVal_fn, mTm_fn, mPl_fn, mMono_fn, mAnn_fn, mDecl_fn, zSL, Nat.zero_add, Nat.add_zero, Nat.add_assoc]
def okTData (b : Nat) (t : TData) : Prop := okL b (eTData t)
theorem okTData_fn : (fun b t => okL b (eTData t)) = okTData := rfl
def zTData (t : TData) : Nat := mL (eTData t)
theorem mTData_fn : (fun t => mL (eTData t)) = zTData := rfl
theorem okTData_down {B b : Nat} {t : TData} (h : okTData B t) (g : zTData t ≤ b) : okTData b t := okL_down h g
theorem okTData_iff {b : Nat} {t : TData} : okTData b t ↔ okS b t.name ∧ okLs b okVal t.rows := by
  conv => lhs; unfold okTData
  rw [eTData]; simp only [okL_cons, okL_nil, okI_int, okI_str, okI_L, okS_fn, okTy_fn, okVal_fn, okTm_fn, okPl_fn, okMono_fn, okAnn_fn, okDecl_fn, okTData_fn, and_true, and_assoc]
theorem zTData_eta (t : TData) : zTData t = zS t.name + zL zVal t.rows := by
  conv => lhs; unfold zTData
  rw [eTData]; simp only [mL_cons, mL_nil, mI_int, mI_str, mI_L, mS_fn, mTy_fn, mVal_fn, mTm_fn, mPl_fn, mMono_fn, mAnn_fn, mDecl_fn, mTData_fn, zSL, Nat.zero_add, Nat.add_zero, Nat.add_assoc]
def okGn (b : Nat) (t : Gn) : Prop := okL b (eGn t)
theorem okGn_fn : (fun b t => okL b (eGn t)) = okGn := rfl
def zGn (t : Gn) : Nat := mL (eGn t)
theorem mGn_fn : (fun t => mL (eGn t)) = zGn := rfl
theorem okGn_down {B b : Nat} {t : Gn} (h : okGn B t) (g : zGn t ≤ b) : okGn b t := okL_down h g
theorem okGn_iff {b : Nat} {t : Gn} : okGn b t ↔ okS b t.var ∧ okS b t.table := by
  conv => lhs; unfold okGn
  rw [eGn]; simp only [okL_cons, okL_nil, okI_int, okI_str, okI_L, okS_fn, okTy_fn, okVal_fn, okTm_fn, okPl_fn, okMono_fn, okAnn_fn, okDecl_fn, okTData_fn, okGn_fn, and_true, and_assoc]
theorem zGn_eta (t : Gn) : zGn t = zS t.var + zS t.table := by
  conv => lhs; unfold zGn
  rw [eGn]; simp only [mL_cons, mL_nil, mI_int, mI_str, mI_L, mS_fn, mTy_fn, mVal_fn, mTm_fn, mPl_fn, mMono_fn, mAnn_fn, mDecl_fn, mTData_fn, mGn_fn, zSL, Nat.zero_add, Nat.add_zero, Nat.add_assoc]
def okVw (b : Nat) (t : Vw) : Prop := okL b (eVw t)
theorem okVw_fn : (fun b t => okL b (eVw t)) = okVw := rfl
def zVw (t : Vw) : Nat := mL (eVw t)
theorem mVw_fn : (fun t => mL (eVw t)) = zVw := rfl
theorem okVw_down {B b : Nat} {t : Vw} (h : okVw B t) (g : zVw t ≤ b) : okVw b t := okL_down h g
theorem okVw_iff {b : Nat} {t : Vw} : okVw b t ↔ okS b t.table ∧ okTm b t.cond ∧ okLs b okS t.cols ∧ okS b t.key := by
  conv => lhs; unfold okVw
  rw [eVw_eta, okTm_iff, okTy_iff]; simp only [okL_cons, okL_nil, okI_int, okI_str, okI_L, okS_fn, okTy_fn, okVal_fn, okTm_fn, okPl_fn, okMono_fn, okAnn_fn, okDecl_fn, okTData_fn, okGn_fn, okVw_fn, and_true, and_assoc]
theorem zVw_eta (t : Vw) : zVw t = zS t.table + zTm t.cond + zSL t.cols + zS t.key := by
  conv => lhs; unfold zVw
  rw [eVw_eta, zTm_eta, zTy_eta]; simp only [mL_cons, mL_nil, mI_int, mI_str, mI_L, mS_fn, mTy_fn, mVal_fn, mTm_fn, mPl_fn, mMono_fn, mAnn_fn, mDecl_fn, mTData_fn, mGn_fn, mVw_fn, zSL, Nat.zero_add, Nat.add_zero, Nat.add_assoc]
theorem Ty.mem {t u : Ty} (h : u ∈ t.args) : SizeOf.sizeOf u < SizeOf.sizeOf t := by
  cases t with
  | mk k l a => have := List.sizeOf_lt_of_mem h; simp only [Ty.mk.sizeOf_spec, Ty.args] at *; omega
theorem Val.mem {t u : Val} (h : u ∈ t.args) : SizeOf.sizeOf u < SizeOf.sizeOf t := by
  cases t with
  | mk k n l a => have := List.sizeOf_lt_of_mem h; simp only [Val.mk.sizeOf_spec, Val.args] at *; omega
theorem Tm.mem {t u : Tm} (h : u ∈ t.args) : SizeOf.sizeOf u < SizeOf.sizeOf t := by
  cases t with
  | mk k s n t l a => have := List.sizeOf_lt_of_mem h; simp only [Tm.mk.sizeOf_spec, Tm.args] at *; omega
theorem Pl.mem {t u : Pl} (h : u ∈ t.args) : SizeOf.sizeOf u < SizeOf.sizeOf t := by
  cases t with
  | mk k s n t l a => have := List.sizeOf_lt_of_mem h; simp only [Pl.mk.sizeOf_spec, Pl.args] at *; omega
def ePoly (l : List Mono) : List IV := [slI eMono l]
theorem ePoly_eta (l : List Mono) : ePoly l = [slI eMono l] := rfl
instance : Wid ePoly 1 := ⟨fun _ => rfl⟩
def okPoly (b : Nat) (t : List Mono) : Prop := okL b (ePoly t)
theorem okPoly_fn : (fun b t => okL b (ePoly t)) = okPoly := rfl
def zPoly (t : List Mono) : Nat := mL (ePoly t)
theorem mPoly_fn : (fun t => mL (ePoly t)) = zPoly := rfl
theorem okPoly_down {B b : Nat} {t : List Mono} (h : okPoly B t) (g : zPoly t ≤ b) : okPoly b t := okL_down h g
theorem okPoly_iff {b : Nat} {t : List Mono} : okPoly b t ↔ okLs b okMono t := by
  conv => lhs; unfold okPoly
  rw [ePoly]; simp only [okL_cons, okL_nil, okI_L, okMono_fn, and_true]
theorem zPoly_eta (t : List Mono) : zPoly t = zL zMono t := by
  conv => lhs; unfold zPoly
  rw [ePoly]; simp only [mL_cons, mL_nil, mI_L, mMono_fn, Nat.add_zero]
def eSch (l : List Decl) : List IV := [slI eDecl l]
theorem eSch_eta (l : List Decl) : eSch l = [slI eDecl l] := rfl
instance : Wid eSch 1 := ⟨fun _ => rfl⟩
def okSch (b : Nat) (t : List Decl) : Prop := okL b (eSch t)
theorem okSch_fn : (fun b t => okL b (eSch t)) = okSch := rfl
def zSch (t : List Decl) : Nat := mL (eSch t)
theorem mSch_fn : (fun t => mL (eSch t)) = zSch := rfl
theorem okSch_down {B b : Nat} {t : List Decl} (h : okSch B t) (g : zSch t ≤ b) : okSch b t := okL_down h g
theorem okSch_iff {b : Nat} {t : List Decl} : okSch b t ↔ okLs b okDecl t := by
  conv => lhs; unfold okSch
  rw [eSch]; simp only [okL_cons, okL_nil, okI_L, okDecl_fn, and_true]
theorem zSch_eta (t : List Decl) : zSch t = zL zDecl t := by
  conv => lhs; unfold zSch
  rw [eSch]; simp only [mL_cons, mL_nil, mI_L, mDecl_fn, Nat.add_zero]
def eDbs (l : List TData) : List IV := [slI eTData l]
theorem eDbs_eta (l : List TData) : eDbs l = [slI eTData l] := rfl
instance : Wid eDbs 1 := ⟨fun _ => rfl⟩
def okDbs (b : Nat) (t : List TData) : Prop := okL b (eDbs t)
theorem okDbs_fn : (fun b t => okL b (eDbs t)) = okDbs := rfl
def zDbs (t : List TData) : Nat := mL (eDbs t)
theorem mDbs_fn : (fun t => mL (eDbs t)) = zDbs := rfl
theorem okDbs_down {B b : Nat} {t : List TData} (h : okDbs B t) (g : zDbs t ≤ b) : okDbs b t := okL_down h g
theorem okDbs_iff {b : Nat} {t : List TData} : okDbs b t ↔ okLs b okTData t := by
  conv => lhs; unfold okDbs
  rw [eDbs]; simp only [okL_cons, okL_nil, okI_L, okTData_fn, and_true]
theorem zDbs_eta (t : List TData) : zDbs t = zL zTData t := by
  conv => lhs; unfold zDbs
  rw [eDbs]; simp only [mL_cons, mL_nil, mI_L, mTData_fn, Nat.add_zero]
theorem okAnn_iff {b : Nat} {t : Ann} : okAnn b t ↔ okVal b t.value ∧ okPoly b t.poly := by rw [okPoly_iff, okAnn_iff0]
theorem zAnn_eta (t : Ann) : zAnn t = zVal t.value + zPoly t.poly := by rw [zPoly_eta, zAnn_eta0]
theorem eMono_eta (t : Mono) : eMono t = [.sc (.int .i64 t.coef), slI eS t.vars] := rfl
theorem eTData_eta (t : TData) : eTData t = [.sc (.string t.name), slI eVal t.rows] := rfl
theorem eGn_eta (t : Gn) : eGn t = [.sc (.string t.var), .sc (.string t.table)] := rfl
/-- A key. -/
structure Kd where
  table : ByteArray
  label : ByteArray
def eKd (a : Kd) : List IV := [.sc (.string a.table), .sc (.string a.label)]
theorem eKd_eta (t : Kd) : eKd t = [.sc (.string t.table), .sc (.string t.label)] := rfl
instance : Wid eKd 2 := ⟨fun _ => rfl⟩
def okKd (b : Nat) (t : Kd) : Prop := okL b (eKd t)
def zKd (t : Kd) : Nat := mL (eKd t)
theorem okKd_down {B b : Nat} {t : Kd} (h : okKd B t) (g : zKd t ≤ b) : okKd b t := okL_down h g
theorem okKd_iff {b : Nat} {t : Kd} : okKd b t ↔ okS b t.table ∧ okS b t.label := by
  conv => lhs; unfold okKd
  rw [eKd]; simp only [okL_cons, okL_nil, okI_str, and_true]
theorem zKd_eta (t : Kd) : zKd t = zS t.table + zS t.label := by
  conv => lhs; unfold zKd
  rw [eKd]; simp only [mL_cons, mL_nil, mI_str, Nat.add_zero]
/-- What a session holds. -/
structure Ses where
  schema : List Decl
  db : List TData
  query : Tm
  other : Tm
def eSes (a : Ses) : List IV := slI eDecl a.schema :: slI eTData a.db :: (eTm a.query ++ eTm a.other)
theorem eSes_eta (a : Ses) : eSes a = [slI eDecl a.schema, slI eTData a.db, .sc (.int .i64 a.query.kind), .sc (.string a.query.name), .sc (.int .i64 a.query.n), .sc (.int .i64 a.query.ty.kind), slI eS a.query.ty.labels, slI eTy a.query.ty.args, slI eS a.query.labels, slI eTm a.query.args, .sc (.int .i64 a.other.kind), .sc (.string a.other.name), .sc (.int .i64 a.other.n), .sc (.int .i64 a.other.ty.kind), slI eS a.other.ty.labels, slI eTy a.other.ty.args, slI eS a.other.labels, slI eTm a.other.args] := by rw [eSes, eTm_eta, eTm_eta]; rfl
instance : Wid eSes 18 := ⟨fun t => by rw [eSes_eta]; rfl⟩
def okSes (b : Nat) (t : Ses) : Prop := okL b (eSes t)
def zSes (t : Ses) : Nat := mL (eSes t)
theorem okSes_down {B b : Nat} {t : Ses} (h : okSes B t) (g : zSes t ≤ b) : okSes b t := okL_down h g
theorem okSes_iff {b : Nat} {t : Ses} : okSes b t ↔ okSch b t.schema ∧ okDbs b t.db ∧ okTm b t.query ∧ okTm b t.other := by
  conv => lhs; unfold okSes
  rw [eSes]; simp only [okL_cons, okL_append, okI_L, okDecl_fn, okTData_fn, okTm, okSch_iff, okDbs_iff]
theorem zSes_eta (t : Ses) : zSes t = zSch t.schema + zDbs t.db + zTm t.query + zTm t.other := by
  conv => lhs; unfold zSes
  rw [eSes]; simp only [mL_cons, mL_append, mI_L, mDecl_fn, mTData_fn, zTm, zSch_eta, zDbs_eta, Nat.add_assoc]
end Go.VC
