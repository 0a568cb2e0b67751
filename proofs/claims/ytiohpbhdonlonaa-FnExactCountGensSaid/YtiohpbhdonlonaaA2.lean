/- Data: how they are measured, copied and compared. -/
import Derived.Test.YtiohpbhdonlonaaA1
import Derived.Test.YtiohpbhdonlonaaD2
namespace Go.VC.T
open Go Go.VC Go.Proofs Go.VC.F
set_option linter.unusedSimpArgs false
set_option linter.unusedVariables false
set_option linter.defProp false
set_option maxRecDepth 100000
def fc33 := (And.intro (And.intro (And.intro (And.intro sz3 ag3) (And.intro zv3 un3)) (And.intro (And.intro sz4 ag4) (And.intro zv4 (And.intro un4 sz9)))) (And.intro (And.intro (And.intro ag9 zv9) (And.intro un9 (And.intro sz38 ag38))) (And.intro (And.intro zv38 sb38) (And.intro un38 (And.intro el38 ap38)))))
theorem szStringS_ok (xs : List ByteArray) (hx : okLs (2^48) okS xs) (left : Int) (hl : 0 ≤ left ∧ left ≤ 2^20) : FnS Try.prog 33 [] [slT eS xs, iT left] [] (iT (szR (zSL xs) left)) := by
  refine FnS.go [0, 1, 4, 5, 11, 15, 26] [] Try.func33 rfl (fun kt kz => ?_)
  have fcx := fc33
  simp only [Try.f33]
  have hx1 := hx.1
  refine Run (cast_succ) ?_; repeat' (first | (with_reducible exact True.intro) | (with_reducible refine Lf.mk ?_ ?_) | (with_reducible intro hb))
  · simp only [zSL, szR_nil hb zL_len]
  · rw [szR_sub hb]
    have hb2 := szR_sub hb ▸ hb
    refine Trn (α := Nat) [1, 4, 5, 12, 13, 14, 15, 16, 17, 18, 19, 20, 21, 22, 23, 24, 25, 26] (fun i => [(5, iT i), (1, iT (szR (zT zS xs i) left))]) (fun i => []) (fun i => i ≤ xs.length ∧ 0 ≤ szR (zT zS xs i) left) (fun i => xs.length - i) (0) (⟨Nat.zero_le _, by rw [zT_zero]; exact hb2⟩) (@zT_zero) ?_; intro lx hI; obtain i := lx; (try simp only [List.nil_append, List.cons_append] at hI ⊢)
    have hz := szR_le (n := zT zS xs lx) hl.1
    by_cases hlt : lx < xs.length
    · have hx2 : zS xs[lx] ≤ 2^48 := okLs_at hx hlt
      have hx3 : xs[lx].size = zS xs[lx] := rfl
      refine Run ((And.intro @eS.eq_1 @hx3)) ?_; repeat' (first | (with_reducible exact True.intro) | (with_reducible refine Lf.mk ?_ ?_) | (with_reducible intro hb))
      · rw [szR_neg (n := zT zS xs (lx + 1)) (by rw [zT_succ hlt, ← szR_add]; unfold szR at *; split <;> omega) zT_le]
      · have e : szR (zT zS xs lx) left - (zS xs[lx] : Int) = szR (zT zS xs (lx + 1)) left := by rw [szR_sub hb, szR_add, ← zT_succ hlt]
        rw [e] at hb
        exact Nxt (@e) (lx + 1) (⟨by omega, hb⟩) (by first | omega | (simp; omega))
      · omega
    · refine Run (cast_succ) ?_; repeat' (first | (with_reducible exact True.intro) | (with_reducible refine Lf.mk ?_ ?_) | (with_reducible intro hb))
      · omega
      · rw [zT_all (by omega)]
theorem eqStringS_rf (xs : List ByteArray) (h : okLs (2^20) okS xs) : FnP Try.prog 38 [slT eS xs, slT eS xs] (bT true) := by
  have := eqStringS_ok xs xs (by have := h.1; omega)
  simpa using this

theorem toStringS_rf (xs : List ByteArray) (h : okLs (2^20) okS xs) : FnP Try.prog 36 [slT eS xs] (slT eS xs) := toStringS_ok xs (by have := h.1; omega)
end Go.VC.T
