/- Data (Gen): how they are measured, copied and compared. -/
import Derived.Test.YtiohpbhdonlonaaA2
namespace Go.VC.T
open Go Go.VC Go.Proofs Go.VC.F
set_option linter.unusedSimpArgs false
set_option linter.unusedVariables false
set_option linter.defProp false
set_option maxRecDepth 100000
set_option maxHeartbeats 2000000
def fc310 := (And.intro (And.intro (And.intro (And.intro sz3 ag3) (And.intro zv3 un3)) (And.intro (And.intro sz4 ag4) (And.intro zv4 (And.intro un4 sz9)))) (And.intro (And.intro (And.intro ag9 zv9) (And.intro un9 sz364)) (And.intro (And.intro ag364 zv364) (And.intro fl364_0 (And.intro fl364_1 pl364)))))
theorem szGen_ok (t : Gn) (h : okGn (2^48) t) (left : Int) (hl : 0 ≤ left ∧ left ≤ 2^20) : FnS Try.prog 310 [] [agT (eGn t), iT left] [] (iT (szR (zGn t) left)) := by
  refine FnS.go [0, 1, 2, 4, 11, 18] [] Try.func310 rfl (fun kt kz => ?_)
  have fcx := fc310
  simp only [Try.f310]
  have ho := okGn_iff.1 h
  have hs0 : t.var.size = zS t.var := rfl
  have hs1 : t.table.size = zS t.table := rfl
  have hw0 : zS t.var ≤ 2^48 := ho.1
  have hw1 : zS t.table ≤ 2^48 := ho.2
  refine Run ((And.intro (And.intro @eGn_eta @hs0) (And.intro @hs1 @szR_add))) ?_; repeat' (first | (with_reducible exact True.intro) | (with_reducible refine Lf.mk ?_ ?_) | (with_reducible intro hb))
  · congr 4; have s2 := szR_spec (zGn t) left; rw [zGn_eta] at s2 ⊢; omega
  · congr 4; have s2 := szR_spec (zGn t) left; rw [zGn_eta] at s2 ⊢; omega
  · skip
    have e : left - (zS t.var : Int) - (zS t.table : Int) = szR (zS t.var + zS t.table) left := by have s3 := szR_spec (zS t.var + zS t.table) left; omega
    rw [e] at hb ⊢
    rw [zGn_eta]
def fc275 := (And.intro (And.intro (And.intro (And.intro sz3 ag3) (And.intro zv3 (And.intro un3 sz4))) (And.intro (And.intro ag4 (And.intro zv4 un4)) (And.intro sz281 (And.intro ag281 zv281)))) (And.intro (And.intro (And.intro sb281 (And.intro un281 el281)) (And.intro ap281 (And.intro sz364 ag364))) (And.intro (And.intro zv364 (And.intro fl364_0 fl364_1)) (And.intro pl364 (And.intro okf310 sz9)))))
theorem szGenS_of (xs : List Gn) (hx : okLs (2^48) okGn xs) (H : ∀ t ∈ xs, ∀ left : Int, 0 ≤ left ∧ left ≤ 2^20 → FnP Try.prog 310 [agT (eGn t), iT left] (iT (szR (zGn t) left))) (left : Int) (hl : 0 ≤ left ∧ left ≤ 2^20) : FnS Try.prog 275 [] [slT eGn xs, iT left] [] (iT (szR (zL zGn xs) left)) := by
  refine FnS.go [0, 1, 4, 5, 11, 15, 25] [] Try.func275 rfl (fun kt kz => ?_)
  have fcx := fc275
  simp only [Try.f275]
  have hx1 := hx.1
  refine Run (cast_succ) ?_; repeat' (first | (with_reducible exact True.intro) | (with_reducible refine Lf.mk ?_ ?_) | (with_reducible intro hb))
  · simp only [szR_nil hb zL_len]
  · rw [szR_sub hb]
    have hb2 := szR_sub hb ▸ hb
    refine Trn (α := Nat) [1, 4, 5, 12, 13, 14, 15, 16, 17, 18, 19, 20, 21, 22, 23, 24, 25] (fun i => [(5, iT i), (1, iT (szR (zT zGn xs i) left))]) (fun i => []) (fun i => i ≤ xs.length ∧ 0 ≤ szR (zT zGn xs i) left) (fun i => xs.length - i) (0) (⟨Nat.zero_le _, by rw [zT_zero]; exact hb2⟩) ((zT_zero (z := zGn) (l := xs))) ?_; intro lx hI; obtain i := lx; (try simp only [List.nil_append, List.cons_append] at hI ⊢)
    have hz := szR_le (n := zT zGn xs lx) hl.1
    by_cases hlt : lx < xs.length
    · have e : szR (zGn xs[lx]) (szR (zT zGn xs lx) left) = szR (zT zGn xs (lx + 1)) left := by rw [zT_succ hlt, ← szR_add]
      refine Run (@eGn_eta) ?_; repeat' (first | (with_reducible exact True.intro) | (with_reducible refine Lf.mk ?_ ?_) | (with_reducible intro hb))
      · refine Cal (@eGn_eta) (H _ (List.getElem_mem hlt) _ ⟨hI.2, by omega⟩) ?_
        refine Run (cast_succ) ?_; repeat' (first | (with_reducible exact True.intro) | (with_reducible refine Lf.mk ?_ ?_) | (with_reducible intro hb))
        · rw [e] at hb
          rw [szR_neg hb zT_le]
        · rw [e] at hb
          exact Nxt (@e) (lx + 1) (⟨by omega, hb⟩) (by first | omega | (simp; omega))
      · omega
    · refine Run (cast_succ) ?_; repeat' (first | (with_reducible exact True.intro) | (with_reducible refine Lf.mk ?_ ?_) | (with_reducible intro hb))
      · omega
      · rw [zT_all (by omega)]

theorem szGenS_ok (xs : List Gn) (h : okLs (2^48) okGn xs) (left : Int) (hl : 0 ≤ left ∧ left ≤ 2^20) : FnP Try.prog 275 [slT eGn xs, iT left] (iT (szR (zL zGn xs) left)) := szGenS_of xs h (fun t ht left hl => szGen_ok t (h.2 t ht) left hl) left hl
def fc311 := (And.intro (And.intro (And.intro (And.intro sz9 ag9) (And.intro zv9 un9)) (And.intro (And.intro sz364 ag364) (And.intro zv364 fl364_0))) (And.intro (And.intro (And.intro fl364_1 pl364) (And.intro sz365 ag365)) (And.intro (And.intro zv365 fl365_0) (And.intro fl365_1 pl365))))
theorem toGen_w (t : Gn) (h : okGn (2^20) t) : FnS Try.prog 311 [] [agT (eGn t)] [] (agT (eGn t)) := by
  refine FnS.go [0, 1, 2, 3] [] Try.func311 rfl (fun kt kz => ?_)
  have fcx := fc311
  simp only [Try.f311]
  have ho := okGn_iff.1 h
  refine Run (@eGn_eta) ?_; repeat' (first | (with_reducible exact True.intro) | (with_reducible refine Lf.mk ?_ ?_) | (with_reducible intro hb))

theorem toGen_o (t : Gn) (h : okGn (2^20) t) : FnS Try.prog 311 [] [agT (eGn t)] [] (.ag [.im (.sc (.string t.var)), .im (.sc (.string t.table))]) := (toGen_w t h).as rfl (by simp [agT, eGn_eta])
def fc276 := (And.intro (And.intro (And.intro (And.intro (And.intro sz3 ag3) (And.intro zv3 un3)) (And.intro (And.intro sz4 ag4) (And.intro zv4 (And.intro un4 sz195)))) (And.intro (And.intro (And.intro ag195 zv195) (And.intro sb195 un195)) (And.intro (And.intro el195 ap195) (And.intro sz281 (And.intro ag281 zv281))))) (And.intro (And.intro (And.intro (And.intro sb281 un281) (And.intro el281 ap281)) (And.intro (And.intro sz364 ag364) (And.intro zv364 (And.intro fl364_0 fl364_1)))) (And.intro (And.intro (And.intro pl364 sz365) (And.intro ag365 zv365)) (And.intro (And.intro fl365_0 fl365_1) (And.intro pl365 (And.intro okf311 sz9))))))
theorem toGenS_w (xs : List Gn) (hx : okLs (2^20) okGn xs) (H : ∀ t ∈ xs, FnS Try.prog 311 [] [agT (eGn t)] [] (.ag [.im (.sc (.string t.var)), .im (.sc (.string t.table))])) : FnS Try.prog 276 [] [slT eGn xs] [(14, .vec 365 2 xs.length (xs.flatMap eGn) true)] (.c (.os 14 xs.length)) := by
  refine FnS.go [0, 2, 3, 4, 11] [] Try.func276 rfl (fun kt kz => ?_)
  have fcx := fc276
  simp only [Try.f276]
  have hx1 := hx.1
  refine Run (cast_succ) ?_; repeat' (first | (with_reducible exact True.intro) | (with_reducible refine Lf.mk ?_ ?_) | (with_reducible intro hb))
  refine Trn (α := Nat) [4, 8, 9, 10, 11, 12, 13, 14, 15, 16, 17, 18, 19, 20, 21] (fun i => [(4, iT i), (3, .c (.os 14 xs.length))]) (fun i => [(14, .vec 365 2 xs.length (filled eGn [.sc (.string ⟨#[]⟩), .sc (.string ⟨#[]⟩)] xs i) true)]) (fun i => i ≤ xs.length) (fun i => xs.length - i) (0) (Nat.zero_le _) (cast_succ) ?_; intro lx hI; obtain i := lx; (try simp only [List.nil_append, List.cons_append] at hI ⊢)
  refine Run (@eGn_eta) ?_; repeat' (first | (with_reducible exact True.intro) | (with_reducible refine Lf.mk ?_ ?_) | (with_reducible intro hb))
  · refine CalI (@eGn_eta) (H _ (List.getElem_mem hb)) ?_
    refine Run (@eGn_eta) ?_; repeat' (first | (with_reducible exact True.intro) | (with_reducible refine Lf.mk ?_ ?_) | (with_reducible intro hb))
    have hs := filled_step' (E := eGn) (zs := [.sc (.string ⟨#[]⟩), .sc (.string ⟨#[]⟩)]) hb
    simp only [eGn_eta, setL_st, stL_one, slI] at hs
    exact Nxt (@hs) (lx + 1) (by omega) (by first | omega | (simp; omega))

theorem toGenS_q (xs : List Gn) (hx : okLs (2^20) okGn xs) (H : ∀ t ∈ xs, FnS Try.prog 311 [] [agT (eGn t)] [] (.ag [.im (.sc (.string t.var)), .im (.sc (.string t.table))])) (q : Nat) : FnS Try.prog 276 [] [slT eGn xs] [(q, .row xs.length (xs.flatMap eGn))] (.c (.os q xs.length)) := by
  obtain ⟨p, hp⟩ := pm1 14 q
  refine ((toGenS_w xs hx H).rows.pm p).as ?_ ?_ <;> simp [rowS, rowO, renS, Ob.ren, TV.ren, Cell.ren, hp]

theorem toGenS_o (xs : List Gn) (h : okLs (2^20) okGn xs) (q : Nat) : FnS Try.prog 276 [] [slT eGn xs] [(q, .row xs.length (xs.flatMap eGn))] (.c (.os q xs.length)) := toGenS_q xs h (fun t ht => toGen_o t (h.2 t ht)) q
def fc312 := (And.intro (And.intro (And.intro sz4 (And.intro ag4 zv4)) (And.intro (And.intro un4 sz9) (And.intro ag9 zv9))) (And.intro (And.intro un9 (And.intro sz365 ag365)) (And.intro (And.intro zv365 fl365_0) (And.intro fl365_1 pl365))))
theorem eqGen_ok (t : Gn) (h : okGn (2^20) t) : FnS Try.prog 312 [] [agT (eGn t), agT (eGn t)] [] (bT true) := by
  refine FnS.go [0, 1, 2, 3, 4, 9, 14] [] Try.func312 rfl (fun kt kz => ?_)
  have fcx := fc312
  simp only [Try.f312]
  have ho := okGn_iff.1 h
  refine Run (@eGn_eta) ?_; repeat' (first | (with_reducible exact True.intro) | (with_reducible refine Lf.mk ?_ ?_) | (with_reducible intro hb))
def fc277 := (And.intro (And.intro (And.intro (And.intro sz3 ag3) (And.intro zv3 (And.intro un3 sz4))) (And.intro (And.intro ag4 (And.intro zv4 un4)) (And.intro sz195 (And.intro ag195 zv195)))) (And.intro (And.intro (And.intro sb195 (And.intro un195 el195)) (And.intro ap195 (And.intro sz365 ag365))) (And.intro (And.intro zv365 (And.intro fl365_0 fl365_1)) (And.intro pl365 (And.intro okf312 sz9)))))
theorem eqGenS_of (xs : List Gn) (hx : okLs (2^20) okGn xs) (H : ∀ t ∈ xs, FnP Try.prog 312 [agT (eGn t), agT (eGn t)] (bT true)) : FnS Try.prog 277 [] [slT eGn xs, slT eGn xs] [] (bT true) := by
  refine FnS.go [0, 1, 4, 5, 10, 14, 26] [] Try.func277 rfl (fun kt kz => ?_)
  have fcx := fc277
  simp only [Try.f277]
  have hx1 := hx.1
  refine Run (cast_succ) ?_; repeat' (first | (with_reducible exact True.intro) | (with_reducible refine Lf.mk ?_ ?_) | (with_reducible intro hb))
  refine Trn (α := Nat) [4, 5, 11, 12, 13, 14, 15, 16, 17, 18, 19, 20, 21, 22, 23, 24, 25, 26] (fun i => [(5, iT i)]) (fun i => []) (fun i => i ≤ xs.length) (fun i => xs.length - i) (0) (Nat.zero_le _) (cast_succ) ?_; intro lx hI; obtain i := lx; (try simp only [List.nil_append, List.cons_append] at hI ⊢)
  refine Run (@eGn_eta) ?_; repeat' (first | (with_reducible exact True.intro) | (with_reducible refine Lf.mk ?_ ?_) | (with_reducible intro hb))
  · refine Cal (@eGn_eta) (H _ (List.getElem_mem hb)) ?_
    refine Run (@eGn_eta) ?_; repeat' (first | (with_reducible exact True.intro) | (with_reducible refine Lf.mk ?_ ?_) | (with_reducible intro hb))
    exact Nxt (cast_succ) (lx + 1) (by omega) (by first | omega | (simp; omega))

theorem eqGenS_ok (xs : List Gn) (h : okLs (2^20) okGn xs) : FnP Try.prog 277 [slT eGn xs, slT eGn xs] (bT true) := eqGenS_of xs h (fun t ht => eqGen_ok t (h.2 t ht))
theorem toGen_ok (t : Gn) (h : okGn (2^20) t) : FnP Try.prog 311 [agT (eGn t)] (agT (eGn t)) := (toGen_o t h).tree (by simp -dsimp (maxSteps := 2000000) (disch := omega) only [vs, ↓Option.bind_some, ev1, ofV, scalarB, Kn, Kb, calleeOf, evLoad, ptr, evField, evFieldAddr, shift, ↓pt_at, ↓pt_at1, evExtract, evBin, evLen, evConv, cellsT, noS, Cell.has, Cell.hasN, Cell.anyN, toIV, toIV0, toIVs, ownC, srcM, Ob.own, Ob.esz, allSc, nilK, lenC, ownCell, isPtr, ptrNil, frzO, Cell.frz, Cell.keys, ↓reduceIte, reduceCtorEq, Nat.reduceEqDiff, Nat.reduceBEq, Nat.reduceBNe, Nat.reduceAdd, Nat.reduceMul, Nat.reduceSub, Nat.reduceLT, Nat.reduceLeDiff, Nat.reducePow, Int.reduceLT, Int.reduceLE, Int.reduceEq, Int.reduceNe, quietB, Nat.reduceMod, Int.reduceToNat, ne_eq, eq_self, exists_const, evBytes, byRow, byL, byStr_size, ifsz, ByteArray.size_append, Option.none_or, Option.some_or, eGn_eta])
theorem toGenS_ok (xs : List Gn) (h : okLs (2^20) okGn xs) : FnP Try.prog 276 [slT eGn xs] (slT eGn xs) := (toGenS_o xs h 1000).tree (by simp -dsimp (maxSteps := 2000000) (disch := omega) only [vs, ↓Option.bind_some, ev1, ofV, scalarB, Kn, Kb, calleeOf, evLoad, ptr, evField, evFieldAddr, shift, ↓pt_at, ↓pt_at1, evExtract, evBin, evLen, evConv, cellsT, noS, Cell.has, Cell.hasN, Cell.anyN, toIV, toIV0, toIVs, ownC, srcM, Ob.own, Ob.esz, allSc, nilK, lenC, ownCell, isPtr, ptrNil, frzO, Cell.frz, Cell.keys, ↓reduceIte, reduceCtorEq, Nat.reduceEqDiff, Nat.reduceBEq, Nat.reduceBNe, Nat.reduceAdd, Nat.reduceMul, Nat.reduceSub, Nat.reduceLT, Nat.reduceLeDiff, Nat.reducePow, Int.reduceLT, Int.reduceLE, Int.reduceEq, Int.reduceNe, quietB, Nat.reduceMod, Int.reduceToNat, ne_eq, eq_self, exists_const, evBytes, byRow, byL, byStr_size, ifsz, ByteArray.size_append, Option.none_or, Option.some_or])

end Go.VC.T
