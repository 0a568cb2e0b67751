/- Functions on texts and numbers: what each returns. -/
import Derived.Test.YtiohpbhdonlonaaF
import Derived.Test.YtiohpbhdonlonaaD1
import Derived.Test.YtiohpbhdonlonaaW26
import Derived.Test.YtiohpbhdonlonaaD8
namespace Go.VC.T
open Go Go.VC Go.Proofs Go.VC.F
set_option linter.unusedSimpArgs false
set_option linter.unusedVariables false
set_option linter.defProp false
set_option maxRecDepth 100000
def fc38 := (And.intro (And.intro (And.intro (And.intro sz3 ag3) (And.intro zv3 un3)) (And.intro (And.intro sz4 ag4) (And.intro zv4 (And.intro un4 sz9)))) (And.intro (And.intro (And.intro ag9 zv9) (And.intro un9 (And.intro sz38 ag38))) (And.intro (And.intro zv38 sb38) (And.intro un38 (And.intro el38 ap38)))))
theorem eqStringS_ok (xs ys : List ByteArray) (hx : xs.length ≤ 2^48) : FnS Try.prog 38 [] [slT eS xs, slT eS ys] [] (bT (decide (xs = ys))) := by
  refine FnS.go [0, 1, 4, 5, 10, 14, 25] [] Try.func38 rfl (fun kt kz => ?_)
  have fcx := fc38
  simp only [Try.f38]
  refine Run (cast_succ) ?_; repeat' (first | (with_reducible exact True.intro) | (with_reducible refine Lf.mk ?_ ?_) | (with_reducible intro hb))
  · have : xs ≠ ys := fun h => hb (by rw [h])
    simp [this]
  · have hl : xs.length = ys.length := by omega
    refine Trn (α := Nat) [4, 5, 11, 12, 13, 14, 15, 16, 17, 18, 19, 20, 21, 22, 23, 24, 25] (fun i => [(5, iT i)]) (fun i => []) (fun i => i ≤ xs.length ∧ xs.take i = ys.take i) (fun i => xs.length - i) (0) (⟨Nat.zero_le _, rfl⟩) (cast_succ) ?_; intro lx hI; obtain i := lx; (try simp only [List.nil_append, List.cons_append] at hI ⊢)
    refine Run (@eS.eq_1) ?_; repeat' (first | (with_reducible exact True.intro) | (with_reducible refine Lf.mk ?_ ?_) | (with_reducible intro hb))
    · have : xs ≠ ys := fun h => hb (by subst h; rfl)
      simp [this]
    · exact Nxt (cast_succ) (lx + 1) (⟨by omega, take_eq_at hI.2 (by omega) (by omega) hb⟩) (by first | omega | (simp; omega))
    · have : xs = ys := by
        have h := hI.2
        rw [List.take_of_length_le (by omega), List.take_of_length_le (by omega)] at h; exact h
      simp [this]
def fc36 := (And.intro (And.intro (And.intro (And.intro sz3 ag3) (And.intro zv3 un3)) (And.intro (And.intro sz4 ag4) (And.intro zv4 (And.intro un4 sz9)))) (And.intro (And.intro (And.intro ag9 zv9) (And.intro un9 (And.intro sz38 ag38))) (And.intro (And.intro zv38 sb38) (And.intro un38 (And.intro el38 ap38)))))
theorem toStringS_ow (xs : List ByteArray) (hx : xs.length ≤ 2^40) : FnS Try.prog 36 [] [slT eS xs] [(14, .vec 9 1 xs.length (xs.flatMap eS) true)] (.c (.os 14 xs.length)) := by
  refine FnS.go [0, 2, 3, 4, 11] [] Try.func36 rfl (fun kt kz => ?_)
  have fcx := fc36
  simp only [Try.f36]
  refine Run (cast_succ) ?_; repeat' (first | (with_reducible exact True.intro) | (with_reducible refine Lf.mk ?_ ?_) | (with_reducible intro hb))
  refine Trn (α := Nat) [4, 8, 9, 10, 11, 12, 13, 14, 15, 16, 17, 18, 19, 20] (fun i => [(4, iT i), (3, .c (.os 14 xs.length))]) (fun i => [(14, .vec 9 1 xs.length (filled eS [.sc (.string ⟨#[]⟩)] xs i) true)]) (fun i => i ≤ xs.length) (fun i => xs.length - i) (0) (Nat.zero_le _) (cast_succ) ?_; intro lx hI; obtain i := lx; (try simp only [List.nil_append, List.cons_append] at hI ⊢)
  refine Run (@eS.eq_1) ?_; repeat' (first | (with_reducible exact True.intro) | (with_reducible refine Lf.mk ?_ ?_) | (with_reducible intro hb))
  · exact Nxt (cast_succ) (lx + 1) (by omega) (by first | omega | (simp; omega))

theorem toStringS_o (xs : List ByteArray) (hx : okLs (2^20) okS xs) (q : Nat) : FnS Try.prog 36 [] [slT eS xs] [(q, .row xs.length (xs.flatMap eS))] (.c (.os q xs.length)) := by
  obtain ⟨p, hp⟩ := pm1 14 q
  refine ((toStringS_ow xs (by have := hx.1; omega)).rows.pm p).as ?_ ?_ <;> simp [rowS, rowO, renS, Ob.ren, TV.ren, Cell.ren, hp]
theorem toStringS_ok (xs : List ByteArray) (hx : xs.length ≤ 2^40) : FnP Try.prog 36 [slT eS xs] (slT eS xs) := (toStringS_ow xs hx).tree (by simp -dsimp (maxSteps := 2000000) (disch := omega) only [vs, ↓Option.bind_some, ev1, ofV, scalarB, Kn, Kb, calleeOf, evLoad, ptr, evField, evFieldAddr, shift, ↓pt_at, ↓pt_at1, evExtract, evBin, evLen, evConv, cellsT, noS, Cell.has, Cell.hasN, Cell.anyN, toIV, toIV0, toIVs, ownC, srcM, Ob.own, Ob.esz, allSc, nilK, lenC, ownCell, isPtr, ptrNil, frzO, Cell.frz, Cell.keys, ↓reduceIte, reduceCtorEq, Nat.reduceEqDiff, Nat.reduceBEq, Nat.reduceBNe, Nat.reduceAdd, Nat.reduceMul, Nat.reduceSub, Nat.reduceLT, Nat.reduceLeDiff, Nat.reducePow, Int.reduceLT, Int.reduceLE, Int.reduceEq, Int.reduceNe, quietB, Nat.reduceMod, Int.reduceToNat, ne_eq, eq_self, exists_const, evBytes, byRow, byL, byStr_size, ifsz, ByteArray.size_append, Option.none_or, Option.some_or])
end Go.VC.T
