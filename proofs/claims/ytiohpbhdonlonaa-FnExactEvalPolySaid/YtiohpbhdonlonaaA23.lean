/- Searching lists of texts; sorted lists. -/
import Derived.Test.YtiohpbhdonlonaaA10
import Derived.Test.YtiohpbhdonlonaaD9
namespace Go.VC
open Go
def SortedS (l : List ByteArray) : Prop := ∀ k, (h : k + 1 < l.length) → sLt l[k + 1] (l[k]'(by omega)) = false
noncomputable instance (l : List ByteArray) : Decidable (SortedS l) := Classical.propDecidable _
end Go.VC
namespace Go.VC.T
open Go Go.VC Go.Proofs Go.VC.F
set_option linter.unusedSimpArgs false
set_option linter.unusedVariables false
set_option linter.defProp false
set_option maxRecDepth 100000
set_option maxHeartbeats 2000000
def fc109 := (And.intro (And.intro (And.intro (And.intro sz3 ag3) (And.intro zv3 un3)) (And.intro (And.intro sz4 ag4) (And.intro zv4 (And.intro un4 sz9)))) (And.intro (And.intro (And.intro ag9 zv9) (And.intro un9 (And.intro sz38 ag38))) (And.intro (And.intro zv38 sb38) (And.intro un38 (And.intro el38 ap38)))))
theorem indexOf_ok (xs : List ByteArray) (s : ByteArray) (hx : xs.length ≤ 2^48) : FnS Try.prog 109 [] [slT eS xs, sT s] [] (iT (idxI (fun x => decide (x = s)) xs)) := by
  refine FnS.go [0, 1, 4, 5, 9, 17] [] Try.func109 rfl (fun kt kz => ?_)
  have fcx := fc109
  simp only [Try.f109]
  refine Run (cast_succ) ?_; repeat' (first | (with_reducible exact True.intro) | (with_reducible refine Lf.mk ?_ ?_) | (with_reducible intro hb))
  refine Trn (α := Nat) [4, 5, 6, 7, 8, 9, 10, 11, 12, 13, 14, 15, 16, 17, 18] (fun i => [(5, iT i)]) (fun i => []) (fun i => i ≤ xs.length ∧ (xs.take i).any (fun x => decide (x = s)) = false) (fun i => xs.length - i) (0) (⟨Nat.zero_le _, rfl⟩) (cast_succ) ?_; intro lx hI; obtain i := lx; (try simp only [List.nil_append, List.cons_append] at hI ⊢)
  by_cases hlt : lx < xs.length
  · refine Run ((And.intro @hlt @eS.eq_1)) ?_; repeat' (first | (with_reducible exact True.intro) | (with_reducible refine Lf.mk ?_ ?_) | (with_reducible intro hb))
    · rw [idx_at (p := fun x => decide (x = s)) hlt hI.2 (by simpa using hb)]
    · exact Nxt (cast_succ) (lx + 1) (⟨by omega, any_take hlt hI.2 (by simpa using hb)⟩) (by first | omega | (simp; omega))
  · have ha := any_all (by omega) hI.2
    refine Run (@hlt) ?_; repeat' (first | (with_reducible exact True.intro) | (with_reducible refine Lf.mk ?_ ?_) | (with_reducible intro hb))
    rw [idx_no ha]
def fc203 := (And.intro (And.intro (And.intro (And.intro sz3 ag3) (And.intro zv3 un3)) (And.intro (And.intro sz4 ag4) (And.intro zv4 (And.intro un4 sz9)))) (And.intro (And.intro (And.intro ag9 zv9) (And.intro un9 (And.intro sz38 ag38))) (And.intro (And.intro zv38 sb38) (And.intro un38 (And.intro el38 ap38)))))
theorem slIdxS_ok (xs : List ByteArray) (s : ByteArray) (hx : xs.length ≤ 2^48) : FnS Try.prog 203 [] [slT eS xs, sT s] [] (iT (idxI (fun x => decide (x = s)) xs)) := by
  refine FnS.go [0, 1, 4, 5, 7, 8, 9, 16] [] Try.func203 rfl (fun kt kz => ?_)
  have fcx := fc203
  simp only [Try.f203]
  refine Run (cast_succ) ?_; repeat' (first | (with_reducible exact True.intro) | (with_reducible refine Lf.mk ?_ ?_) | (with_reducible intro hb))
  refine Trn (α := Nat) [4, 5, 8, 9, 10, 11, 12, 13, 14, 15, 16, 17, 18] (fun i => [(8, iT i)]) (fun i => []) (fun i => i ≤ xs.length ∧ (xs.take i).any (fun x => decide (x = s)) = false) (fun i => xs.length - i) (0) (⟨Nat.zero_le _, rfl⟩) (cast_succ) ?_; intro lx hI; obtain i := lx; (try simp only [List.nil_append, List.cons_append] at hI ⊢)
  by_cases hlt : lx < xs.length
  · refine Run ((And.intro @hlt @eS.eq_1)) ?_; repeat' (first | (with_reducible exact True.intro) | (with_reducible refine Lf.mk ?_ ?_) | (with_reducible intro hb))
    · rw [idx_at (p := fun x => decide (x = s)) hlt hI.2 (by simpa using hb.symm)]
    · exact Nxt (cast_succ) (lx + 1) (⟨by omega, any_take hlt hI.2 (by simpa using fun h => hb h.symm)⟩) (by first | omega | (simp; omega))
  · have ha := any_all (by omega) hI.2
    refine Run (@hlt) ?_; repeat' (first | (with_reducible exact True.intro) | (with_reducible refine Lf.mk ?_ ?_) | (with_reducible intro hb))
    rw [idx_no ha]
def fc114 := (And.intro (And.intro (And.intro (And.intro sz3 ag3) (And.intro zv3 (And.intro un3 sz4))) (And.intro (And.intro ag4 zv4) (And.intro un4 (And.intro sz9 ag9)))) (And.intro (And.intro (And.intro zv9 un9) (And.intro sz38 (And.intro ag38 zv38))) (And.intro (And.intro sb38 un38) (And.intro el38 (And.intro ap38 okf203)))))
theorem slHasS_ok (xs : List ByteArray) (s : ByteArray) (hx : xs.length ≤ 2^48) : FnS Try.prog 114 [] [slT eS xs, sT s] [] (bT (xs.any (fun x => decide (x = s)))) := by
  refine FnS.go [0, 1, 4] [] Try.func114 rfl (fun kt kz => ?_)
  have fcx := fc114
  simp only [Try.f114]
  refine Run (cast_succ) ?_; repeat' (first | (with_reducible exact True.intro) | (with_reducible refine Lf.mk ?_ ?_) | (with_reducible intro hb))
  refine Cal (cast_succ) (slIdxS_ok xs s hx) ?_
  refine Run ((idx_ge (p := fun x => decide (x = s)) (l := xs))) ?_; repeat' (first | (with_reducible exact True.intro) | (with_reducible refine Lf.mk ?_ ?_) | (with_reducible intro hb))
def fc202 := (And.intro (And.intro (And.intro (And.intro sz3 ag3) (And.intro zv3 (And.intro un3 sz4))) (And.intro (And.intro ag4 (And.intro zv4 un4)) (And.intro sz9 (And.intro ag9 zv9)))) (And.intro (And.intro (And.intro un9 sz28) (And.intro ag28 (And.intro zv28 sz38))) (And.intro (And.intro ag38 (And.intro zv38 sb38)) (And.intro un38 (And.intro el38 ap38)))))
theorem slIdxFS_ok (g : Nat) (hg : fnOk Try.prog g = true) (c : IV) (p : ByteArray → Bool) (xs : List ByteArray) (hx : xs.length ≤ 2^48) (H : ∀ x ∈ xs, FnP Try.prog g [sT x, .c (.im c)] (bT (p x))) : FnS Try.prog 202 [] [slT eS xs, .c (.im (.fn g [c]))] [] (iT (idxI p xs)) := by
  refine FnS.go [0, 1, 4, 5, 7, 8, 9, 16] [] Try.func202 rfl (fun kt kz => ?_)
  have fcx := fc202
  simp only [Try.f202]
  refine Run (cast_succ) ?_; repeat' (first | (with_reducible exact True.intro) | (with_reducible refine Lf.mk ?_ ?_) | (with_reducible intro hb))
  refine Trn (α := Nat) [4, 5, 8, 9, 10, 11, 12, 13, 14, 15, 16, 17, 18] (fun i => [(8, iT i)]) (fun i => []) (fun i => i ≤ xs.length ∧ (xs.take i).any p = false) (fun i => xs.length - i) (0) (⟨Nat.zero_le _, rfl⟩) (cast_succ) ?_; intro lx hI; obtain i := lx; (try simp only [List.nil_append, List.cons_append] at hI ⊢)
  by_cases hlt : lx < xs.length
  · refine Run ((And.intro @hlt (And.intro @eS.eq_1 @hg))) ?_; repeat' (first | (with_reducible exact True.intro) | (with_reducible refine Lf.mk ?_ ?_) | (with_reducible intro hb))
    refine Cal (cast_succ) (H _ (List.getElem_mem hlt)) ?_
    refine Run (cast_succ) ?_; repeat' (first | (with_reducible exact True.intro) | (with_reducible refine Lf.mk ?_ ?_) | (with_reducible intro hb))
    · rw [idx_at hlt hI.2 hb]
    · exact Nxt (cast_succ) (lx + 1) (⟨by omega, any_take hlt hI.2 hb⟩) (by first | omega | (simp; omega))
  · have ha := any_all (by omega) hI.2
    refine Run (@hlt) ?_; repeat' (first | (with_reducible exact True.intro) | (with_reducible refine Lf.mk ?_ ?_) | (with_reducible intro hb))
    rw [idx_no ha]
def fc112 := (And.intro (And.intro (And.intro (And.intro sz3 ag3) (And.intro zv3 un3)) (And.intro (And.intro sz4 ag4) (And.intro zv4 (And.intro un4 sz28)))) (And.intro (And.intro (And.intro ag28 zv28) (And.intro sz38 (And.intro ag38 zv38))) (And.intro (And.intro sb38 un38) (And.intro el38 (And.intro ap38 okf202)))))
theorem slHasFS_ok (g : Nat) (hg : fnOk Try.prog g = true) (c : IV) (p : ByteArray → Bool) (xs : List ByteArray) (hx : xs.length ≤ 2^48) (H : ∀ x ∈ xs, FnP Try.prog g [sT x, .c (.im c)] (bT (p x))) : FnS Try.prog 112 [] [slT eS xs, .c (.im (.fn g [c]))] [] (bT (xs.any p)) := by
  refine FnS.go [0, 1, 4] [] Try.func112 rfl (fun kt kz => ?_)
  have fcx := fc112
  simp only [Try.f112]
  refine Run (cast_succ) ?_; repeat' (first | (with_reducible exact True.intro) | (with_reducible refine Lf.mk ?_ ?_) | (with_reducible intro hb))
  refine Cal (cast_succ) (slIdxFS_ok g hg c p xs hx H) ?_
  refine Run ((idx_ge (p := p) (l := xs))) ?_; repeat' (first | (with_reducible exact True.intro) | (with_reducible refine Lf.mk ?_ ?_) | (with_reducible intro hb))
def fc303 := (And.intro (And.intro (And.intro sz4 ag4) (And.intro zv4 un4)) (And.intro (And.intro sz9 ag9) (And.intro zv9 (And.intro un9 okf308))))
theorem cmpLess_ok (x y : ByteArray) : FnS Try.prog 303 [] [sT x, sT y] [] (bT (sLt x y)) := by
  refine FnS.go [0, 1, 4] [] Try.func303 rfl (fun kt kz => ?_)
  have fcx := fc303
  simp only [Try.f303]
  refine Run (cast_succ) ?_; repeat' (first | (with_reducible exact True.intro) | (with_reducible refine Lf.mk ?_ ?_) | (with_reducible intro hb))
  refine Cal (cast_succ) (isNaNS_ok x) ?_
  refine Run (cast_succ) ?_; repeat' (first | (with_reducible exact True.intro) | (with_reducible refine Lf.mk ?_ ?_) | (with_reducible intro hb))
def fc263 := (And.intro (And.intro (And.intro (And.intro sz3 ag3) (And.intro zv3 (And.intro un3 sz4))) (And.intro (And.intro ag4 zv4) (And.intro un4 (And.intro sz9 ag9)))) (And.intro (And.intro (And.intro zv9 un9) (And.intro sz38 (And.intro ag38 zv38))) (And.intro (And.intro sb38 un38) (And.intro el38 (And.intro ap38 okf303)))))
theorem slSortedS_ok (xs : List ByteArray) (hx : xs.length ≤ 2^48) : FnS Try.prog 263 [] [slT eS xs] [] (bT (decide (SortedS xs))) := by
  refine FnS.go [0, 2, 3, 8, 20] [] Try.func263 rfl (fun kt kz => ?_)
  have fcx := fc263
  simp only [Try.f263]
  by_cases h0 : xs = []
  · subst h0
    refine Run (cast_succ) ?_; repeat' (first | (with_reducible exact True.intro) | (with_reducible refine Lf.mk ?_ ?_) | (with_reducible intro hb))
    refine Trn (α := Nat) [2, 3, 7, 8, 9, 10, 11, 12, 13, 14, 15, 16, 17, 18, 19, 20] (fun i => [(3, iT (((0 : Nat) : Int) - 1))]) (fun i => []) (fun i => True) (fun i => i) (0) (trivial) (cast_succ) ?_; intro lx hI; obtain i := lx; (try simp only [List.nil_append, List.cons_append] at hI ⊢)
    refine Run (cast_succ) ?_; repeat' (first | (with_reducible exact True.intro) | (with_reducible refine Lf.mk ?_ ?_) | (with_reducible intro hb))
    · omega
    · rw [decide_eq_true (show SortedS [] from fun k h => by simp at h)]
  · have hl : 0 < xs.length := List.length_pos_iff.2 h0
    refine Run (cast_succ) ?_; repeat' (first | (with_reducible exact True.intro) | (with_reducible refine Lf.mk ?_ ?_) | (with_reducible intro hb))
    refine Trn (α := Nat) [2, 3, 7, 8, 9, 10, 11, 12, 13, 14, 15, 16, 17, 18, 19, 20] (fun i => [(3, iT (i : Int))]) (fun i => []) (fun i => i < xs.length ∧ ∀ k, (h : k + 1 < xs.length) → i ≤ k → sLt xs[k + 1] (xs[k]'(by omega)) = false) (fun i => i) (xs.length - 1) (⟨by omega, fun k h hk => by omega⟩) ((show ((xs.length - 1 : Nat) : Int) = (xs.length : Int) - 1 by omega)) ?_; intro lx hI; obtain i := lx; (try simp only [List.nil_append, List.cons_append] at hI ⊢)
    by_cases hp : 0 < lx
    · have hz : (0 : Int) < (lx : Int) := by omega
      refine Run ((And.intro @hz @eS.eq_1)) ?_; repeat' (first | (with_reducible exact True.intro) | (with_reducible refine Lf.mk ?_ ?_) | (with_reducible intro hb))
      refine Cal (cast_succ) (cmpLess_ok xs[lx] xs[lx - 1]) ?_
      refine Run (cast_succ) ?_; repeat' (first | (with_reducible exact True.intro) | (with_reducible refine Lf.mk ?_ ?_) | (with_reducible intro hb))
      · rw [decide_eq_false fun hs => by
          have h1 := hs (lx - 1) (by omega)
          have e : lx - 1 + 1 = lx := by omega
          simp only [e] at h1
          rw [hb] at h1; cases h1]
      · exact Nxt ((show ((lx - 1 : Nat) : Int) = (lx : Int) - 1 by omega)) (lx - 1) (⟨by omega, fun k h hk => by
          by_cases hk2 : lx ≤ k
          · exact hI.2 k h hk2
          · have e : k = lx - 1 := by omega
            subst e
            have e : lx - 1 + 1 = lx := by omega
            simp only [e]
            exact hb⟩) (by omega)
    · have hz : ¬ (0 : Int) < (lx : Int) := by omega
      refine Run (@hz) ?_; repeat' (first | (with_reducible exact True.intro) | (with_reducible refine Lf.mk ?_ ?_) | (with_reducible intro hb))
      rw [decide_eq_true (show SortedS xs from fun k h => hI.2 k h (by omega))]

end Go.VC.T
