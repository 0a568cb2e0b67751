/- Comparing data: no statement of a program. -/
import Derived.Test.YtiohpbhdonlonaaD4
set_option linter.unusedVariables false
namespace Go.VC
open Go
def numC (a b : Int) : Int := (if b < a then 1 else 0) - (if a < b then 1 else 0)
theorem numC_eq {a b : Int} : numC a b = 0 ↔ a = b := by unfold numC; split <;> split <;> omega
theorem cmpS_bits {x y : ByteArray} (h : x ≠ y) : (if sLt y x = true then (1 : Int) else 0) - (if sLt x y = true then 1 else 0) = cmpS x y := by
  unfold cmpS
  cases h1 : sLt x y with
  | true => rw [sLt_asymm h1]; simp
  | false => rw [sLt_tri h1 h]; simp [h]
theorem cmpL_eq : ∀ {x y : List ByteArray}, cmpL x y = 0 ↔ x = y
  | [], [] => by simp [cmpL]
  | [], _ :: _ => by simp [cmpL]
  | _ :: _, [] => by simp [cmpL]
  | a :: x, b :: y => by
    rw [cmpL]
    by_cases h : a = b
    · simp [h, cmpL_eq (x := x) (y := y)]
    · simp [h, cmpS_eq]
/-- The first that is not zero. -/
def orC : List Int → Int
  | [] => 0
  | x :: r => if x = 0 then orC r else x
mutual
def cmpV : Val → Val → Int
  | .mk k n l a, w => orC [numC k w.kind, numC n w.n, numC a.length w.args.length, cmpL l w.labels, cmpVL a w.args]
def cmpVL : List Val → List Val → Int
  | [], _ => 0
  | x :: r, ys => match ys with
    | [] => 0
    | y :: s => if cmpV x y = 0 then cmpVL r s else cmpV x y
end
theorem cmpV_eta (v w : Val) : cmpV v w = orC [numC v.kind w.kind, numC v.n w.n, numC v.args.length w.args.length, cmpL v.labels w.labels, cmpVL v.args w.args] := by
  cases v with
  | mk k n l a => rw [cmpV]; rfl
mutual
theorem cmpV_eq : ∀ {v w : Val}, cmpV v w = 0 ↔ v = w
  | .mk k n l a, w => by
    rw [cmpV_eta]
    simp only [orC]
    constructor
    · intro h
      split at h
      · rename_i h1
        split at h
        · rename_i h2
          split at h
          · rename_i h3
            split at h
            · rename_i h4
              split at h
              · rename_i h5
                have h3' : a.length = w.args.length := by have := numC_eq.1 h3; exact Int.ofNat.inj this
                exact Val.ext (numC_eq.1 h1) (numC_eq.1 h2) (cmpL_eq.1 h4) ((cmpVL_eq (xs := a) h3').1 h5)
              · contradiction
            · contradiction
          · contradiction
        · contradiction
      · contradiction
    · rintro rfl
      have h5 := (cmpVL_eq (xs := a) (ys := a) rfl).2 rfl
      simp [numC_eq.2 rfl, cmpL_eq.2 rfl, Val.kind, Val.n, Val.args, Val.labels, h5]
theorem cmpVL_eq : ∀ {xs ys : List Val}, xs.length = ys.length → (cmpVL xs ys = 0 ↔ xs = ys)
  | [], ys, h => by
    cases ys with
    | nil => simp [cmpVL]
    | cons => simp at h
  | x :: r, ys, h => by
    cases ys with
    | nil => simp at h
    | cons y s =>
      have h1 := cmpV_eq (v := x) (w := y)
      have h2 := cmpVL_eq (xs := r) (ys := s) (by simpa using h)
      rw [cmpVL]
      by_cases e : cmpV x y = 0
      · rw [if_pos e, h2, h1.1 e]; simp
      · have : x ≠ y := fun q => e (h1.2 q)
        simp [e, this]
end
theorem cmpVL_at {xs ys : List Val} {i : Nat} (hx : i < xs.length) (hy : i < ys.length) : cmpVL (xs.drop i) (ys.drop i) = if cmpV xs[i] ys[i] = 0 then cmpVL (xs.drop (i + 1)) (ys.drop (i + 1)) else cmpV xs[i] ys[i] := by
  rw [drop_at hx, drop_at hy, cmpVL]
theorem cmpVL_nil {xs ys : List Val} {i : Nat} (h : xs.length ≤ i) : cmpVL (xs.drop i) (ys.drop i) = 0 := by
  rw [List.drop_of_length_le h, cmpVL]
end Go.VC
