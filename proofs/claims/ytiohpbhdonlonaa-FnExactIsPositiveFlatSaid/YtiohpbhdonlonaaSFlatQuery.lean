/- Data (FlatQuery): how they are measured, copied and compared. -/
import Derived.Test.YtiohpbhdonlonaaSFlatComp
namespace Go.VC.T
open Go Go.VC Go.Proofs Go.VC.F
set_option linter.unusedSimpArgs false
set_option linter.unusedVariables false
set_option linter.defProp false
set_option maxRecDepth 100000
set_option maxHeartbeats 2000000
def fc56 := (And.intro (And.intro (And.intro (And.intro sz3 (And.intro ag3 zv3)) (And.intro (And.intro un3 sz4) (And.intro ag4 zv4))) (And.intro (And.intro (And.intro un4 sz38) (And.intro ag38 zv38)) (And.intro (And.intro sb38 un38) (And.intro el38 ap38)))) (And.intro (And.intro (And.intro sz88 (And.intro ag88 zv88)) (And.intro (And.intro sb88 un88) (And.intro el88 ap88))) (And.intro (And.intro (And.intro sz90 ag90) (And.intro zv90 fl90_0)) (And.intro (And.intro fl90_1 pl90) (And.intro okf33 okf137)))))
theorem szFlatQuery_ok (t : FQ) (h : okFQ (2^48) t) (left : Int) (hl : 0 ≤ left ∧ left ≤ 2^20) : FnS Try.prog 56 [] [agT (eFQ t), iT left] [] (iT (szR (zFQ t) left)) := by
  refine FnS.go [0, 1, 2, 4, 10, 16] [] Try.func56 rfl (fun kt kz => ?_)
  have fcx := fc56
  simp only [Try.f56]
  have ho := okFQ_iff.1 h
  refine Run ((And.intro @eFQ_eta @szR_add)) ?_; repeat' (first | (with_reducible exact True.intro) | (with_reducible refine Lf.mk ?_ ?_) | (with_reducible intro hb))
  refine Cal ((And.intro @eFQ_eta @szR_add)) (szStringS_ok _ ho.1 _ hl) ?_
  have hz := szR_le (n := zSL t.path) hl.1
  refine Run ((And.intro @eFQ_eta @szR_add)) ?_; repeat' (first | (with_reducible exact True.intro) | (with_reducible refine Lf.mk ?_ ?_) | (with_reducible intro hb))
  · congr 4; have s1 := szR_spec (zSL t.path) left; have s2 := szR_spec (zFQ t) left; rw [zFQ_eta] at s2 ⊢; omega
  · skip
    refine Cal ((And.intro @eFQ_eta @szR_add)) (szFlatCompS_ok _ ho.2 _ ⟨(by assumption), by have := szR_le (n := zSL t.path) hl.1; omega⟩) ?_
    have hz := szR_le (n := zSL t.path + zL zFC t.comps) hl.1
    refine Run ((And.intro @eFQ_eta @szR_add)) ?_; repeat' (first | (with_reducible exact True.intro) | (with_reducible refine Lf.mk ?_ ?_) | (with_reducible intro hb))
    · congr 4; have s1 := szR_spec (zSL t.path + zL zFC t.comps) left; have s2 := szR_spec (zFQ t) left; rw [zFQ_eta] at s2 ⊢; omega
    · skip
      rw [zFQ_eta]

def fc58 := (And.intro (And.intro (And.intro (And.intro (And.intro sz38 ag38) (And.intro zv38 sb38)) (And.intro (And.intro un38 el38) (And.intro ap38 sz88))) (And.intro (And.intro (And.intro ag88 zv88) (And.intro sb88 un88)) (And.intro (And.intro el88 ap88) (And.intro sz90 (And.intro ag90 zv90))))) (And.intro (And.intro (And.intro (And.intro fl90_0 fl90_1) (And.intro pl90 sz93)) (And.intro (And.intro ag93 zv93) (And.intro sb93 (And.intro un93 el93)))) (And.intro (And.intro (And.intro ap93 sz95) (And.intro ag95 zv95)) (And.intro (And.intro fl95_0 fl95_1) (And.intro pl95 (And.intro okf36 okf139))))))
theorem toFlatQuery_w (t : FQ) (h : okFQ (2^20) t) : FnS Try.prog 58 [] [agT (eFQ t)] [(1000, .row t.path.length (t.path.flatMap eS)), (1002, .row t.comps.length (t.comps.flatMap eFC))] (.ag [.os 1000 t.path.length, .os 1002 t.comps.length]) := by
  refine FnS.go [0, 1, 2, 3] [] Try.func58 rfl (fun kt kz => ?_)
  have fcx := fc58
  simp only [Try.f58]
  have ho := okFQ_iff.1 h
  refine Run (@eFQ_eta) ?_; repeat' (first | (with_reducible exact True.intro) | (with_reducible refine Lf.mk ?_ ?_) | (with_reducible intro hb))
  refine CalI (@eFQ_eta) (toStringS_o _ ho.1 1000) ?_
  refine Run (@eFQ_eta) ?_; repeat' (first | (with_reducible exact True.intro) | (with_reducible refine Lf.mk ?_ ?_) | (with_reducible intro hb))
  refine CalI (@eFQ_eta) (toFlatCompS_o _ ho.2 1002) ?_
  refine Run (@eFQ_eta) ?_; repeat' (first | (with_reducible exact True.intro) | (with_reducible refine Lf.mk ?_ ?_) | (with_reducible intro hb))

theorem toFlatQuery_o (t : FQ) (h : okFQ (2^20) t) : ∀ q0 q1 : Nat, [q0, q1].Nodup → FnS Try.prog 58 [] [agT (eFQ t)] [(q0, .row t.path.length (t.path.flatMap eS)), (q1, .row t.comps.length (t.comps.flatMap eFC))] (.ag [.os q0 t.path.length, .os q1 t.comps.length]) := by
  intro q0 q1 hq
  obtain ⟨p, hp⟩ := pml [1000, 1002] [q0, q1] (by decide) hq rfl
  simp only [List.map_cons, List.map_nil, List.cons.injEq, and_true] at hp
  refine ((toFlatQuery_w t h).rows.pm p).as ?_ ?_ <;> simp [rowS, rowO, renS, Ob.ren, TV.ren, renL, Cell.ren, hp]

def fc60 := (And.intro (And.intro (And.intro (And.intro sz4 (And.intro ag4 zv4)) (And.intro un4 (And.intro sz38 ag38))) (And.intro (And.intro zv38 (And.intro sb38 un38)) (And.intro (And.intro el38 ap38) (And.intro sz93 ag93)))) (And.intro (And.intro (And.intro zv93 (And.intro sb93 un93)) (And.intro el93 (And.intro ap93 sz95))) (And.intro (And.intro ag95 (And.intro zv95 fl95_0)) (And.intro (And.intro fl95_1 pl95) (And.intro okf38 okf143)))))
theorem eqFlatQuery_ok (t : FQ) (h : okFQ (2^20) t) : FnS Try.prog 60 [] [agT (eFQ t), agT (eFQ t)] [] (bT true) := by
  refine FnS.go [0, 1, 2, 3, 4, 10, 16] [] Try.func60 rfl (fun kt kz => ?_)
  have fcx := fc60
  simp only [Try.f60]
  have ho := okFQ_iff.1 h
  refine Run (@eFQ_eta) ?_; repeat' (first | (with_reducible exact True.intro) | (with_reducible refine Lf.mk ?_ ?_) | (with_reducible intro hb))
  refine Cal (@eFQ_eta) (eqStringS_rf _ ho.1) ?_
  refine Run (@eFQ_eta) ?_; repeat' (first | (with_reducible exact True.intro) | (with_reducible refine Lf.mk ?_ ?_) | (with_reducible intro hb))
  refine Cal (@eFQ_eta) (eqFlatCompS_ok _ ho.2) ?_
  refine Run (@eFQ_eta) ?_; repeat' (first | (with_reducible exact True.intro) | (with_reducible refine Lf.mk ?_ ?_) | (with_reducible intro hb))

theorem toFlatQuery_ok (t : FQ) (h : okFQ (2^20) t) : FnP Try.prog 58 [agT (eFQ t)] (agT (eFQ t)) := (toFlatQuery_o t h 1000 1002 (by decide)).tree (by simp -dsimp (maxSteps := 2000000) (disch := omega) only [vs, ↓Option.bind_some, ev1, ofV, scalarB, Kn, Kb, calleeOf, evLoad, ptr, evField, evFieldAddr, shift, ↓pt_at, ↓pt_at1, evExtract, evBin, evLen, evConv, cellsT, noS, Cell.has, Cell.hasN, Cell.anyN, toIV, toIV0, toIVs, ownC, srcM, Ob.own, Ob.esz, allSc, nilK, lenC, ownCell, isPtr, ptrNil, frzO, Cell.frz, Cell.keys, ↓reduceIte, reduceCtorEq, Nat.reduceEqDiff, Nat.reduceBEq, Nat.reduceBNe, Nat.reduceAdd, Nat.reduceMul, Nat.reduceSub, Nat.reduceLT, Nat.reduceLeDiff, Nat.reducePow, Int.reduceLT, Int.reduceLE, Int.reduceEq, Int.reduceNe, quietB, Nat.reduceMod, Int.reduceToNat, ne_eq, eq_self, exists_const, evBytes, byRow, byL, byStr_size, ifsz, ByteArray.size_append, Option.none_or, Option.some_or, eFQ_eta])

end Go.VC.T
