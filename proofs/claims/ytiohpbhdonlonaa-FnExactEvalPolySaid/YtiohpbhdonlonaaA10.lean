/- Comparisons: what each returns. -/
import Derived.Test.YtiohpbhdonlonaaA2
import Derived.Test.YtiohpbhdonlonaaD5
namespace Go.VC.T
open Go Go.VC Go.Proofs Go.VC.F
set_option linter.unusedSimpArgs false
set_option linter.unusedVariables false
set_option linter.defProp false
set_option maxRecDepth 100000
set_option maxHeartbeats 2000000
def fc308 := (And.intro (And.intro (And.intro sz4 ag4) (And.intro zv4 un4)) (And.intro (And.intro sz9 ag9) (And.intro zv9 un9)))
theorem isNaNS_ok (a : ByteArray) : FnS Try.prog 308 [] [sT a] [] (bT false) := by
  refine FnS.go [0, 2] [] Try.func308 rfl (fun kt kz => ?_)
  have fcx := fc308
  simp only [Try.f308]
  refine Run (cast_succ) ?_; repeat' (first | (with_reducible exact True.intro) | (with_reducible refine Lf.mk ?_ ?_) | (with_reducible intro hb))
def fc309 := (And.intro (And.intro (And.intro sz3 ag3) (And.intro zv3 un3)) (And.intro (And.intro sz4 ag4) (And.intro zv4 un4)))
theorem isNaNI_ok (a : Int) : FnS Try.prog 309 [] [iT a] [] (bT false) := by
  refine FnS.go [0, 2] [] Try.func309 rfl (fun kt kz => ?_)
  have fcx := fc309
  simp only [Try.f309]
  refine Run (cast_succ) ?_; repeat' (first | (with_reducible exact True.intro) | (with_reducible refine Lf.mk ?_ ?_) | (with_reducible intro hb))
def fc264 := (And.intro (And.intro (And.intro sz3 (And.intro ag3 zv3)) (And.intro un3 (And.intro sz4 ag4))) (And.intro (And.intro zv4 (And.intro un4 sz9)) (And.intro (And.intro ag9 zv9) (And.intro un9 okf308))))
theorem cmpCompareS_ok (a b : ByteArray) : FnS Try.prog 264 [] [sT a, sT b] [] (iT (cmpS a b)) := by
  refine FnS.go [0, 1, 4, 5, 6, 11, 12, 13, 16, 19] [] Try.func264 rfl (fun kt kz => ?_)
  have fcx := fc264
  simp only [Try.f264]
  refine Run (cast_succ) ?_; repeat' (first | (with_reducible exact True.intro) | (with_reducible refine Lf.mk ?_ ?_) | (with_reducible intro hb))
  refine Cal (cast_succ) (isNaNS_ok a) ?_
  refine Run (cast_succ) ?_; repeat' (first | (with_reducible exact True.intro) | (with_reducible refine Lf.mk ?_ ?_) | (with_reducible intro hb))
  refine Cal (cast_succ) (isNaNS_ok b) ?_
  refine Run (@sGt) ?_; repeat' (first | (with_reducible exact True.intro) | (with_reducible refine Lf.mk ?_ ?_) | (with_reducible intro hb))
  · rw [cmpS, if_pos hb]
  · rename_i h1
    rw [cmpS, if_neg (by simp [h1]), if_neg (by rintro rfl; rw [sLt_irrefl] at hb; cases hb)]
  · rename_i h1
    rw [cmpS, if_neg (by simp [h1]), if_pos (by
      apply Classical.byContradiction; intro hn
      rw [sLt_tri h1 hn] at hb; cases hb)]
def fc274 := (And.intro (And.intro (And.intro sz3 ag3) (And.intro zv3 un3)) (And.intro (And.intro sz4 ag4) (And.intro zv4 (And.intro un4 okf309))))
theorem cmpCompareI_ok (a b : Int) : FnS Try.prog 274 [] [iT a, iT b] [] (iT (numC a b)) := by
  refine FnS.go [0, 1, 4, 5, 6, 11, 12, 13, 16, 19] [] Try.func274 rfl (fun kt kz => ?_)
  have fcx := fc274
  simp only [Try.f274]
  refine Run (cast_succ) ?_; repeat' (first | (with_reducible exact True.intro) | (with_reducible refine Lf.mk ?_ ?_) | (with_reducible intro hb))
  refine Cal (cast_succ) (isNaNI_ok a) ?_
  refine Run (cast_succ) ?_; repeat' (first | (with_reducible exact True.intro) | (with_reducible refine Lf.mk ?_ ?_) | (with_reducible intro hb))
  refine Cal (cast_succ) (isNaNI_ok b) ?_
  refine Run (cast_succ) ?_; repeat' (first | (with_reducible exact True.intro) | (with_reducible refine Lf.mk ?_ ?_) | (with_reducible intro hb))
  all_goals (try (unfold numC; congr 4; (repeat' split) <;> omega))
def fc247 := (And.intro (And.intro (And.intro sz3 ag3) (And.intro zv3 un3)) (And.intro (And.intro sz4 ag4) (And.intro zv4 un4)))
theorem l1Bit_ok (b : Bool) : FnS Try.prog 247 [] [bT b] [] (iT (if b then 1 else 0)) := by
  refine FnS.go [0, 2, 3] [] Try.func247 rfl (fun kt kz => ?_)
  have fcx := fc247
  simp only [Try.f247]
  cases b
  · refine Run (cast_succ) ?_; repeat' (first | (with_reducible exact True.intro) | (with_reducible refine Lf.mk ?_ ?_) | (with_reducible intro hb))
  · refine Run (cast_succ) ?_; repeat' (first | (with_reducible exact True.intro) | (with_reducible refine Lf.mk ?_ ?_) | (with_reducible intro hb))
def fc216 := (And.intro (And.intro (And.intro sz3 ag3) (And.intro zv3 un3)) (And.intro (And.intro sz4 ag4) (And.intro zv4 (And.intro un4 okf247))))
theorem l5Number_ok (a b : Int) : FnS Try.prog 216 [] [iT a, iT b] [] (iT (numC a b)) := by
  refine FnS.go [0, 1, 4] [] Try.func216 rfl (fun kt kz => ?_)
  have fcx := fc216
  simp only [Try.f216]
  refine Run (cast_succ) ?_; repeat' (first | (with_reducible exact True.intro) | (with_reducible refine Lf.mk ?_ ?_) | (with_reducible intro hb))
  refine Cal (cast_succ) (l1Bit_ok (decide (b < a))) ?_
  refine Run (cast_succ) ?_; repeat' (first | (with_reducible exact True.intro) | (with_reducible refine Lf.mk ?_ ?_) | (with_reducible intro hb))
  refine Cal (cast_succ) (l1Bit_ok (decide (a < b))) ?_
  refine Run (cast_succ) ?_; repeat' (first | (with_reducible exact True.intro) | (with_reducible refine Lf.mk ?_ ?_) | (with_reducible intro hb))
  simp [numC]
def fc273 := (And.intro (And.intro (And.intro sz3 (And.intro ag3 zv3)) (And.intro (And.intro un3 sz4) (And.intro ag4 zv4))) (And.intro (And.intro (And.intro un4 sz153) (And.intro ag153 zv153)) (And.intro (And.intro sb153 un153) (And.intro el153 ap153))))
theorem cmpOr_ok (xs : List Int) (hx : xs.length ≤ 2^20) : FnS Try.prog 273 [] [slT eI xs] [] (iT (orC xs)) := by
  refine FnS.go [0, 2, 3, 5, 6, 7, 8, 9, 14] [] Try.func273 rfl (fun kt kz => ?_)
  have fcx := fc273
  simp only [Try.f273]
  refine Run (cast_succ) ?_; repeat' (first | (with_reducible exact True.intro) | (with_reducible refine Lf.mk ?_ ?_) | (with_reducible intro hb))
  refine Trn (α := Nat) [2, 5, 8, 9, 10, 11, 12, 13, 14, 15, 16] (fun i => [(8, iT i)]) (fun i => []) (fun i => i ≤ xs.length ∧ orC (xs.drop i) = orC xs) (fun i => xs.length - i) (0) (⟨Nat.zero_le _, rfl⟩) (cast_succ) ?_; intro lx hI; obtain i := lx; (try simp only [List.nil_append, List.cons_append] at hI ⊢)
  by_cases hlt : lx < xs.length
  · have h := hI.2
    rw [drop_at hlt, orC] at h
    refine Run (@eI.eq_1) ?_; repeat' (first | (with_reducible exact True.intro) | (with_reducible refine Lf.mk ?_ ?_) | (with_reducible intro hb))
    · rw [if_neg hb] at h; rw [h]
    · rw [if_pos hb] at h
      exact Nxt (cast_succ) (lx + 1) (⟨by omega, h⟩) (by first | omega | (simp; omega))
    · omega
  · refine Run (@eI.eq_1) ?_; repeat' (first | (with_reducible exact True.intro) | (with_reducible refine Lf.mk ?_ ?_) | (with_reducible intro hb))
    · omega
    · rw [← hI.2, List.drop_of_length_le (by omega)]; rfl
def fc201 := (And.intro (And.intro (And.intro (And.intro sz3 ag3) (And.intro zv3 (And.intro un3 sz4))) (And.intro (And.intro ag4 zv4) (And.intro un4 (And.intro sz9 ag9)))) (And.intro (And.intro (And.intro zv9 un9) (And.intro sz38 (And.intro ag38 zv38))) (And.intro (And.intro sb38 un38) (And.intro el38 (And.intro ap38 okf264)))))
theorem slicesCompare_ok (xs ys : List ByteArray) (hx : xs.length ≤ 2^48) : FnS Try.prog 201 [] [slT eS xs, slT eS ys] [] (iT (cmpL xs ys)) := by
  refine FnS.go [0, 1, 4, 5, 6, 7, 8, 9, 10, 11, 12, 19, 28, 35] [] Try.func201 rfl (fun kt kz => ?_)
  have fcx := fc201
  simp only [Try.f201]
  refine Run (cast_succ) ?_; repeat' (first | (with_reducible exact True.intro) | (with_reducible refine Lf.mk ?_ ?_) | (with_reducible intro hb))
  refine Trn (α := Nat) [4, 5, 6, 7, 8, 11, 12, 13, 14, 15, 16, 17, 18, 19, 20, 21, 22, 23, 24, 25, 26, 27, 28, 29, 30] (fun i => [(11, iT i)]) (fun i => []) (fun i => i ≤ xs.length ∧ i ≤ ys.length ∧ cmpL (xs.drop i) (ys.drop i) = cmpL xs ys) (fun i => xs.length - i) (0) (⟨Nat.zero_le _, Nat.zero_le _, rfl⟩) (cast_succ) ?_; intro lx hI; obtain i := lx; (try simp only [List.nil_append, List.cons_append] at hI ⊢)
  have hc := hI.2.2
  by_cases hlt : lx < xs.length
  · by_cases hlt2 : lx < ys.length
    · rw [cmpL_drop (x := xs[lx]) (y := ys[lx]) (by simp [hlt]) (by simp [hlt2])] at hc
      refine Run (@eS.eq_1) ?_; repeat' (first | (with_reducible exact True.intro) | (with_reducible refine Lf.mk ?_ ?_) | (with_reducible intro hb))
      · omega
      · refine Cal (cast_succ) (cmpCompareS_ok xs[lx] ys[lx]) ?_
        refine Run (cast_succ) ?_; repeat' (first | (with_reducible exact True.intro) | (with_reducible refine Lf.mk ?_ ?_) | (with_reducible intro hb))
        · rw [← hc, if_neg fun e => hb (cmpS_eq.2 e)]
        · rw [if_pos (cmpS_eq.1 hb)] at hc
          exact Nxt (cast_succ) (lx + 1) (⟨by omega, by omega, hc⟩) (by first | omega | (simp; omega))
      · omega
    · rw [drop_at hlt, List.drop_of_length_le (l := ys) (by omega)] at hc
      refine Run (@eS.eq_1) ?_; repeat' (first | (with_reducible exact True.intro) | (with_reducible refine Lf.mk ?_ ?_) | (with_reducible intro hb))
      all_goals first | omega | (rw [← hc]; rfl) | skip
  · refine Run (@eS.eq_1) ?_; repeat' (first | (with_reducible exact True.intro) | (with_reducible refine Lf.mk ?_ ?_) | (with_reducible intro hb))
    all_goals first | omega | skip
    · rw [← hc, List.drop_of_length_le (by omega), drop_at (by omega)]; rfl
    · rw [← hc, List.drop_of_length_le (by omega), List.drop_of_length_le (by omega)]; rfl
def fc198 := (And.intro (And.intro (And.intro (And.intro sz3 ag3) (And.intro zv3 (And.intro un3 sz4))) (And.intro (And.intro ag4 zv4) (And.intro un4 (And.intro sz9 ag9)))) (And.intro (And.intro (And.intro zv9 un9) (And.intro sz38 (And.intro ag38 zv38))) (And.intro (And.intro sb38 (And.intro un38 el38)) (And.intro ap38 (And.intro okf216 okf247)))))
theorem l5Labels_ok (xs ys : List ByteArray) (hx : xs.length ≤ 2^48) (hy : ys.length ≤ 2^48) : FnS Try.prog 198 [] [slT eS xs, slT eS ys] [] (iT (cmpL xs ys)) := by
  refine FnS.go [0, 1, 4, 5, 15, 26] [] Try.func198 rfl (fun kt kz => ?_)
  have fcx := fc198
  simp only [Try.f198]
  refine Run (cast_succ) ?_; repeat' (first | (with_reducible exact True.intro) | (with_reducible refine Lf.mk ?_ ?_) | (with_reducible intro hb))
  refine Trn (α := Nat) [4, 5, 6, 7, 8, 9, 10, 11, 12, 13, 14, 15, 16, 17, 18, 19, 20, 21, 22, 23, 24, 25, 26, 27, 28, 29, 30, 31, 32, 33, 34, 35, 36, 37, 38, 39, 40, 41, 42, 43, 44, 45, 46, 47] (fun i => [(5, iT i)]) (fun i => []) (fun i => i ≤ xs.length ∧ i ≤ ys.length ∧ cmpL (xs.drop i) (ys.drop i) = cmpL xs ys) (fun i => xs.length - i) (0) (⟨Nat.zero_le _, Nat.zero_le _, rfl⟩) (cast_succ) ?_; intro lx hI; obtain i := lx; (try simp only [List.nil_append, List.cons_append] at hI ⊢)
  have hc := hI.2.2
  have hn : ¬ (lx < xs.length ∧ lx < ys.length) → numC xs.length ys.length = cmpL xs ys := by
    intro hq
    by_cases h1 : lx < xs.length
    · have h2 : ¬ lx < ys.length := fun h2 => hq ⟨h1, h2⟩
      rw [← hc, List.drop_of_length_le (l := ys) (by omega), drop_at h1, numC, if_pos (by omega), if_neg (by omega)]; rfl
    · rw [← hc, List.drop_of_length_le (by omega), numC, if_neg (by omega)]
      by_cases h2 : lx < ys.length
      · rw [drop_at h2, if_pos (by omega)]; rfl
      · rw [List.drop_of_length_le (by omega), if_neg (by omega)]; rfl
  by_cases hlt : lx < xs.length
  · by_cases hlt2 : lx < ys.length
    · rw [cmpL_drop (x := xs[lx]) (y := ys[lx]) (by simp [hlt]) (by simp [hlt2])] at hc
      refine Run ((And.intro (And.intro @eS.eq_1 @hlt) (And.intro @hlt2 @sGt))) ?_; repeat' (first | (with_reducible exact True.intro) | (with_reducible refine Lf.mk ?_ ?_) | (with_reducible intro hb))
      · refine Cal ((And.intro @eS.eq_1 @sGt)) (l1Bit_ok (sLt ys[lx] xs[lx])) ?_
        refine Run (cast_succ) ?_; repeat' (first | (with_reducible exact True.intro) | (with_reducible refine Lf.mk ?_ ?_) | (with_reducible intro hb))
        refine Cal ((And.intro @eS.eq_1 @sGt)) (l1Bit_ok (sLt xs[lx] ys[lx])) ?_
        refine Run (cast_succ) ?_; repeat' (first | (with_reducible exact True.intro) | (with_reducible refine Lf.mk ?_ ?_) | (with_reducible intro hb))
        all_goals rw [← hc, if_neg hb, ← cmpS_bits hb]
      · rw [if_pos hb] at hc
        exact Nxt (cast_succ) (lx + 1) (⟨by omega, by omega, hc⟩) (by first | omega | (simp; omega))
    · refine Run ((And.intro @eS.eq_1 (And.intro @hlt @hlt2))) ?_; repeat' (first | (with_reducible exact True.intro) | (with_reducible refine Lf.mk ?_ ?_) | (with_reducible intro hb))
      refine Cal (cast_succ) (l5Number_ok xs.length ys.length) ?_
      refine Run ((And.intro @hn (And.intro @hlt @hlt2))) ?_; repeat' (first | (with_reducible exact True.intro) | (with_reducible refine Lf.mk ?_ ?_) | (with_reducible intro hb))
  · refine Run ((And.intro @eS.eq_1 @hlt)) ?_; repeat' (first | (with_reducible exact True.intro) | (with_reducible refine Lf.mk ?_ ?_) | (with_reducible intro hb))
    refine Cal (cast_succ) (l5Number_ok xs.length ys.length) ?_
    refine Run ((And.intro @hn @hlt)) ?_; repeat' (first | (with_reducible exact True.intro) | (with_reducible refine Lf.mk ?_ ?_) | (with_reducible intro hb))

end Go.VC.T
