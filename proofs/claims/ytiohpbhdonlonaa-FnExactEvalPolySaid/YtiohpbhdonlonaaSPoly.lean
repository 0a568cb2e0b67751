/- Data (Poly): how they are measured, copied and compared. -/
import Derived.Test.YtiohpbhdonlonaaSMono
namespace Go.VC.T
open Go Go.VC Go.Proofs Go.VC.F
set_option linter.unusedSimpArgs false
set_option linter.unusedVariables false
set_option linter.defProp false
set_option maxRecDepth 100000
set_option maxHeartbeats 2000000
def fc32 := (And.intro (And.intro (And.intro (And.intro sz3 ag3) (And.intro zv3 (And.intro un3 sz4))) (And.intro (And.intro ag4 zv4) (And.intro un4 (And.intro sz35 ag35)))) (And.intro (And.intro (And.intro zv35 sb35) (And.intro un35 (And.intro el35 ap35))) (And.intro (And.intro sz37 (And.intro ag37 zv37)) (And.intro fl37_0 (And.intro pl37 okf107)))))
theorem szPoly_ok (t : List Mono) (h : okPoly (2^48) t) (left : Int) (hl : 0 ≤ left ∧ left ≤ 2^20) : FnS Try.prog 32 [] [agT (ePoly t), iT left] [] (iT (szR (zPoly t) left)) := by
  refine FnS.go [0, 1, 2, 4, 10] [] Try.func32 rfl (fun kt kz => ?_)
  have fcx := fc32
  simp only [Try.f32]
  have ho := okPoly_iff.1 h
  refine Run ((And.intro @ePoly_eta @szR_add)) ?_; repeat' (first | (with_reducible exact True.intro) | (with_reducible refine Lf.mk ?_ ?_) | (with_reducible intro hb))
  refine Cal ((And.intro @ePoly_eta @szR_add)) (szMonoS_ok _ ho _ hl) ?_
  have hz := szR_le (n := zL zMono t) hl.1
  refine Run ((And.intro @ePoly_eta @szR_add)) ?_; repeat' (first | (with_reducible exact True.intro) | (with_reducible refine Lf.mk ?_ ?_) | (with_reducible intro hb))
  · congr 4; have s1 := szR_spec (zL zMono t) left; have s2 := szR_spec (zPoly t) left; rw [zPoly_eta] at s2 ⊢; omega
  · skip
    rw [zPoly_eta]

def fc35 := (And.intro (And.intro (And.intro (And.intro sz22 (And.intro ag22 zv22)) (And.intro sb22 (And.intro un22 el22))) (And.intro (And.intro ap22 (And.intro sz24 ag24)) (And.intro zv24 (And.intro fl24_0 pl24)))) (And.intro (And.intro (And.intro sz35 (And.intro ag35 zv35)) (And.intro sb35 (And.intro un35 el35))) (And.intro (And.intro ap35 (And.intro sz37 ag37)) (And.intro (And.intro zv37 fl37_0) (And.intro pl37 okf110)))))
theorem toPoly_w (t : List Mono) (h : okPoly (2^20) t) : FnS Try.prog 35 [] [agT (ePoly t)] [(1000, .row t.length (t.flatMap eMono))] (.ag [.os 1000 t.length]) := by
  refine FnS.go [0, 1, 2, 3] [] Try.func35 rfl (fun kt kz => ?_)
  have fcx := fc35
  simp only [Try.f35]
  have ho := okPoly_iff.1 h
  refine Run (@ePoly_eta) ?_; repeat' (first | (with_reducible exact True.intro) | (with_reducible refine Lf.mk ?_ ?_) | (with_reducible intro hb))
  refine CalI (@ePoly_eta) (toMonoS_o _ ho 1000) ?_
  refine Run (@ePoly_eta) ?_; repeat' (first | (with_reducible exact True.intro) | (with_reducible refine Lf.mk ?_ ?_) | (with_reducible intro hb))

theorem toPoly_o (t : List Mono) (h : okPoly (2^20) t) : ∀ q0 : Nat, [q0].Nodup → FnS Try.prog 35 [] [agT (ePoly t)] [(q0, .row t.length (t.flatMap eMono))] (.ag [.os q0 t.length]) := by
  intro q0 hq
  obtain ⟨p, hp⟩ := pml [1000] [q0] (by decide) hq rfl
  simp only [List.map_cons, List.map_nil, List.cons.injEq, and_true] at hp
  refine ((toPoly_w t h).rows.pm p).as ?_ ?_ <;> simp [rowS, rowO, renS, Ob.ren, TV.ren, renL, Cell.ren, hp]

def fc22 := (And.intro (And.intro (And.intro (And.intro sz4 ag4) (And.intro zv4 un4)) (And.intro (And.intro sz22 ag22) (And.intro zv22 sb22))) (And.intro (And.intro (And.intro un22 el22) (And.intro ap22 sz24)) (And.intro (And.intro ag24 zv24) (And.intro fl24_0 (And.intro pl24 okf95)))))
theorem eqPoly_ok (t : List Mono) (h : okPoly (2^20) t) : FnS Try.prog 22 [] [agT (ePoly t), agT (ePoly t)] [] (bT true) := by
  refine FnS.go [0, 1, 2, 3, 4, 10] [] Try.func22 rfl (fun kt kz => ?_)
  have fcx := fc22
  simp only [Try.f22]
  have ho := okPoly_iff.1 h
  refine Run (@ePoly_eta) ?_; repeat' (first | (with_reducible exact True.intro) | (with_reducible refine Lf.mk ?_ ?_) | (with_reducible intro hb))
  refine Cal (@ePoly_eta) (eqMonoS_ok _ ho) ?_
  refine Run (@ePoly_eta) ?_; repeat' (first | (with_reducible exact True.intro) | (with_reducible refine Lf.mk ?_ ?_) | (with_reducible intro hb))

theorem toPoly_ok (t : List Mono) (h : okPoly (2^20) t) : FnP Try.prog 35 [agT (ePoly t)] (agT (ePoly t)) := (toPoly_o t h 1000 (by decide)).tree (by simp -dsimp (maxSteps := 2000000) (disch := omega) only [vs, ↓Option.bind_some, ev1, ofV, scalarB, Kn, Kb, calleeOf, evLoad, ptr, evField, evFieldAddr, shift, ↓pt_at, ↓pt_at1, evExtract, evBin, evLen, evConv, cellsT, noS, Cell.has, Cell.hasN, Cell.anyN, toIV, toIV0, toIVs, ownC, srcM, Ob.own, Ob.esz, allSc, nilK, lenC, ownCell, isPtr, ptrNil, frzO, Cell.frz, Cell.keys, ↓reduceIte, reduceCtorEq, Nat.reduceEqDiff, Nat.reduceBEq, Nat.reduceBNe, Nat.reduceAdd, Nat.reduceMul, Nat.reduceSub, Nat.reduceLT, Nat.reduceLeDiff, Nat.reducePow, Int.reduceLT, Int.reduceLE, Int.reduceEq, Int.reduceNe, quietB, Nat.reduceMod, Int.reduceToNat, ne_eq, eq_self, exists_const, evBytes, byRow, byL, byStr_size, ifsz, ByteArray.size_append, Option.none_or, Option.some_or, ePoly_eta])

end Go.VC.T
