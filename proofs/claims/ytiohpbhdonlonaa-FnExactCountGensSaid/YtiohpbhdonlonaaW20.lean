/- The order of strings and of lists of strings, and plain facts about lists: no statement of a program. -/
import Derived.Test.YtiohpbhdonlonaaW19
set_option linter.unusedSimpArgs false
set_option linter.unusedVariables false
namespace Go.VC
open Go Go.RowKit

theorem bl_irrefl : ∀ (a : List UInt8), Op.bytesLess a a = false := by
  intro a
  induction a with
  | nil => rfl
  | cons x a ih => simp [Op.bytesLess, ih]
theorem bl_asymm : ∀ (a b : List UInt8), Op.bytesLess a b = true → Op.bytesLess b a = false := by
  intro a
  induction a with
  | nil => intro b h; cases b <;> simp [Op.bytesLess] at h ⊢
  | cons x a ih =>
    intro b h
    cases b with
    | nil => simp [Op.bytesLess] at h
    | cons y b =>
      simp only [Op.bytesLess, Bool.or_eq_true, decide_eq_true_eq, Bool.and_eq_true, beq_iff_eq] at h
      simp only [Op.bytesLess, Bool.or_eq_false_iff, decide_eq_false_iff_not, Bool.and_eq_false_imp, beq_iff_eq]
      rcases h with h | ⟨rfl, h⟩
      · exact ⟨UInt8.lt_asymm h, fun he => absurd (he ▸ h) (UInt8.lt_irrefl _)⟩
      · exact ⟨UInt8.lt_irrefl _, fun _ => ih b h⟩
theorem bl_tri : ∀ (a b : List UInt8), Op.bytesLess a b = false → a ≠ b → Op.bytesLess b a = true := by
  intro a
  induction a with
  | nil => intro b h hn; cases b with | nil => exact absurd rfl hn | cons y b => simp [Op.bytesLess] at h
  | cons x a ih =>
    intro b h hn
    cases b with
    | nil => rfl
    | cons y b =>
      simp only [Op.bytesLess, Bool.or_eq_false_iff, decide_eq_false_iff_not, Bool.and_eq_false_imp, beq_iff_eq] at h
      simp only [Op.bytesLess, Bool.or_eq_true, decide_eq_true_eq, Bool.and_eq_true, beq_iff_eq]
      by_cases hxy : x = y
      · subst hxy
        exact .inr ⟨rfl, ih b (h.2 rfl) fun e => hn (by rw [e])⟩
      · rcases UInt8.lt_or_lt_of_ne hxy with h' | h'
        · exact absurd h' h.1
        · exact .inl h'
theorem sLt_irrefl (a : ByteArray) : sLt a a = false := bl_irrefl _
theorem sLt_asymm {a b : ByteArray} (h : sLt a b = true) : sLt b a = false := bl_asymm _ _ h
theorem sLt_tri {a b : ByteArray} (h : sLt a b = false) (hn : a ≠ b) : sLt b a = true := bl_tri _ _ h fun e => hn (by cases a; cases b; simp only [ByteArray.mk.injEq]; exact Array.toList_inj.1 e)
/-- The order the other way round. -/
theorem sGt (a b : ByteArray) : (!(sLt a b || decide (a = b))) = sLt b a := by
  cases h : sLt a b with
  | true => rw [sLt_asymm h]; rfl
  | false =>
    by_cases e : a = b
    · subst e; simp [sLt_irrefl]
    · simp [e, sLt_tri h e]
/-- Comparing two strings. -/
def cmpS (a b : ByteArray) : Int := if sLt a b then -1 else if a = b then 0 else 1
theorem cmpS_eq {a b : ByteArray} : cmpS a b = 0 ↔ a = b := by
  unfold cmpS
  cases h : sLt a b with
  | true =>
    refine ⟨by simp, fun e => ?_⟩
    subst e; rw [sLt_irrefl] at h; cases h
  | false => simp
/-- Comparing two lists of strings. -/
def cmpL : List ByteArray → List ByteArray → Int
  | [], [] => 0
  | [], _ :: _ => -1
  | _ :: _, [] => 1
  | a :: x, b :: y => if a = b then cmpL x y else cmpS a b
theorem cmpL_drop {xs ys : List ByteArray} {i : Nat} {x y : ByteArray} (hx : xs[i]? = some x) (hy : ys[i]? = some y) : cmpL (xs.drop i) (ys.drop i) = if x = y then cmpL (xs.drop (i + 1)) (ys.drop (i + 1)) else cmpS x y := by
  rw [drop_get hx, drop_get hy, cmpL]
theorem wrap_pred {i n : Nat} (h0 : 0 < i) (h : i ≤ n) (hn : n ≤ 2 ^ 60) : IntKind.i64.wrap ((i : Int) - 1) = ((i - 1 : Nat) : Int) := by
  rw [wrap_i64 (by omega) (by omega)]; omega
theorem toNat_sub (i : Nat) : ((i : Int)).toNat = i := by simp
end Go.VC
