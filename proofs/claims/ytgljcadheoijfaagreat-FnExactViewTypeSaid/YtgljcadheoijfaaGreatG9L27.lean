/- Data (View): how they are measured, copied and compared. -/
import Derived.Test.YtgljcadheoijfaaGreatG7L27
import Derived.Test.YtgljcadheoijfaaGreatG8L27
import Derived.Test.YtgljcadheoijfaaGreatG6L27
import Derived.Test.YtgljcadheoijfaaGreatG5L27
import Derived.Test.YtgljcadheoijfaaGreatG4WL27
set_option linter.unusedSimpArgs false
set_option linter.unusedVariables false
set_option linter.defProp false
set_option maxRecDepth 100000
set_option maxHeartbeats 2000000
namespace Go.VC.T
open Go Go.VC Go.Proofs Go.VC.F
def fc6SView := (ai (ai (ai (ai (ai sz3 ag3) (ai zv3 (ai un3 sz4))) (ai (ai ag4 zv4) (ai un4 (ai sz9 ag9)))) (ai (ai (ai zv9 un9) (ai sz25 (ai ag25 zv25))) (ai (ai sb25 un25) (ai el25 (ai ap25 sz31))))) (ai (ai (ai (ai ag31 zv31) (ai fl31_0 (ai fl31_1 fl31_2))) (ai (ai fl31_3 fl31_4) (ai fl31_5 (ai pl31 sz33)))) (ai (ai (ai ag33 zv33) (ai fl33_0 (ai fl33_1 fl33_2))) (ai (ai fl33_3 (ai pl33 okf21)) (ai okf22 (ai sz28 sz29))))))
theorem szView_ok (t : Vw) (h : okVw (2^48) t) (left : Int) (hl : 0 ≤ left ∧ left ≤ 2^20) : FnS Tryz.prog 6 [] [agT (eVw t), iT left] [] (iT (szR (zVw t) left)) := by
  refine FnS.go [0, 1, 2, 4, 11, 17, 23, 30] [] Tryz.func6 rfl (fun kt kz => ?_)
  have fcx := fc6SView
  simp only [Tryz.f6]
  have ho := okVw_iff.1 h
  have hs0 : t.table.size = zS t.table := rfl
  have hs3 : t.key.size = zS t.key := rfl
  have hw0 : zS t.table ≤ 2^48 := ho.1
  have hw3 : zS t.key ≤ 2^48 := ho.2.2.2
  refine Run ((ai (ai @eVw_eta (ai @eTm_eta @eTy_eta)) (ai @hs0 (ai @hs3 @szR_add)))) ?_; with_reducible repeat' (first | exact True.intro | refine Lf.mk ?_ ?_ | intro hb)
  · congr 4; have s2 := szR_spec (zVw t) left; rw [zVw_eta] at s2 ⊢; omega
  · skip
    have e : left - (zS t.table : Int) = szR (zS t.table) left := by have s3 := szR_spec (zS t.table) left; omega
    rw [e] at hb ⊢
    refine Cal ((ai (ai @eVw_eta (ai @eTm_eta @eTy_eta)) (ai @hs0 (ai @hs3 @szR_add)))) (szTerm_ok _ ho.2.1 _ ⟨(by assumption), by have := szR_le (n := zS t.table) hl.1; omega⟩) ?_
    have hz := szR_le (n := zS t.table + zTm t.cond) hl.1
    refine Run ((ai (ai @eVw_eta (ai @eTm_eta @eTy_eta)) (ai @hs0 (ai @hs3 @szR_add)))) ?_; with_reducible repeat' (first | exact True.intro | refine Lf.mk ?_ ?_ | intro hb)
    · congr 4; have s1 := szR_spec (zS t.table + zTm t.cond) left; have s2 := szR_spec (zVw t) left; rw [zVw_eta] at s2 ⊢; omega
    · skip
      refine Cal ((ai (ai @eVw_eta (ai @eTm_eta @eTy_eta)) (ai @hs0 (ai @hs3 @szR_add)))) (szStringS_ok _ ho.2.2.1 _ ⟨(by assumption), by have := szR_le (n := zS t.table + zTm t.cond) hl.1; omega⟩) ?_
      have hz := szR_le (n := zS t.table + zTm t.cond + zSL t.cols) hl.1
      refine Run ((ai (ai @eVw_eta (ai @eTm_eta @eTy_eta)) (ai @hs0 (ai @hs3 @szR_add)))) ?_; with_reducible repeat' (first | exact True.intro | refine Lf.mk ?_ ?_ | intro hb)
      · congr 4; have s1 := szR_spec (zS t.table + zTm t.cond + zSL t.cols) left; have s2 := szR_spec (zVw t) left; rw [zVw_eta] at s2 ⊢; omega
      · congr 4; have s1 := szR_spec (zS t.table + zTm t.cond + zSL t.cols) left; have s2 := szR_spec (zVw t) left; rw [zVw_eta] at s2 ⊢; omega
      · skip
        have e : szR (zS t.table + zTm t.cond + zSL t.cols) left - (zS t.key : Int) = szR (zS t.table + zTm t.cond + zSL t.cols + zS t.key) left := by have s1 := szR_spec (zS t.table + zTm t.cond + zSL t.cols) left; have s3 := szR_spec (zS t.table + zTm t.cond + zSL t.cols + zS t.key) left; omega
        rw [e] at hb ⊢
        rw [zVw_eta]

def fc9SView := (ai (ai (ai (ai (ai sz9 (ai ag9 zv9)) (ai un9 (ai sz25 ag25))) (ai (ai zv25 (ai sb25 un25)) (ai (ai el25 ap25) (ai sz31 ag31)))) (ai (ai (ai zv31 (ai fl31_0 fl31_1)) (ai (ai fl31_2 fl31_3) (ai fl31_4 fl31_5))) (ai (ai pl31 (ai sz33 ag33)) (ai (ai zv33 fl33_0) (ai fl33_1 fl33_2))))) (ai (ai (ai (ai fl33_3 (ai pl33 sz46)) (ai ag46 (ai zv46 fl46_0))) (ai (ai fl46_1 (ai fl46_2 fl46_3)) (ai (ai fl46_4 fl46_5) (ai pl46 sz48)))) (ai (ai (ai ag48 (ai zv48 fl48_0)) (ai (ai fl48_1 fl48_2) (ai fl48_3 pl48))) (ai (ai okf32 (ai okf33 sz3)) (ai (ai sz28 sz29) (ai sz43 sz44))))))
theorem toView_w (t : Vw) (h : okVw (2^20) t) : FnS Tryz.prog 9 [] [agT (eVw t)] [(1000, .row t.cond.ty.labels.length (t.cond.ty.labels.flatMap eS)), (1002, .row t.cond.ty.args.length (t.cond.ty.args.flatMap eTy)), (1004, .row t.cond.labels.length (t.cond.labels.flatMap eS)), (1006, .row t.cond.args.length (t.cond.args.flatMap eTm)), (1008, .row t.cols.length (t.cols.flatMap eS))] (.ag [.im (.sc (.string t.table)), .im (.sc (.int .i64 t.cond.kind)), .im (.sc (.string t.cond.name)), .im (.sc (.int .i64 t.cond.n)), .im (.sc (.int .i64 t.cond.ty.kind)), .os 1000 t.cond.ty.labels.length, .os 1002 t.cond.ty.args.length, .os 1004 t.cond.labels.length, .os 1006 t.cond.args.length, .os 1008 t.cols.length, .im (.sc (.string t.key))]) := by
  refine FnS.go [0, 1, 2, 3] [] Tryz.func9 rfl (fun kt kz => ?_)
  have fcx := fc9SView
  simp only [Tryz.f9]
  have ho := okVw_iff.1 h
  refine Run ((ai @eVw_eta (ai @eTm_eta @eTy_eta))) ?_; with_reducible repeat' (first | exact True.intro | refine Lf.mk ?_ ?_ | intro hb)
  refine CalI ((ai @eVw_eta (ai @eTm_eta @eTy_eta))) (toTerm_o _ ho.2.1 1000 1002 1004 1006 (by decide)) ?_
  refine Run ((ai @eVw_eta (ai @eTm_eta @eTy_eta))) ?_; with_reducible repeat' (first | exact True.intro | refine Lf.mk ?_ ?_ | intro hb)
  refine CalI ((ai @eVw_eta (ai @eTm_eta @eTy_eta))) (toStringS_o _ ho.2.2.1 1008) ?_
  refine Run ((ai @eVw_eta (ai @eTm_eta @eTy_eta))) ?_; with_reducible repeat' (first | exact True.intro | refine Lf.mk ?_ ?_ | intro hb)

theorem toView_o (t : Vw) (h : okVw (2^20) t) : ∀ q0 q1 q2 q3 q4 : Nat, [q0, q1, q2, q3, q4].Nodup → FnS Tryz.prog 9 [] [agT (eVw t)] [(q0, .row t.cond.ty.labels.length (t.cond.ty.labels.flatMap eS)), (q1, .row t.cond.ty.args.length (t.cond.ty.args.flatMap eTy)), (q2, .row t.cond.labels.length (t.cond.labels.flatMap eS)), (q3, .row t.cond.args.length (t.cond.args.flatMap eTm)), (q4, .row t.cols.length (t.cols.flatMap eS))] (.ag [.im (.sc (.string t.table)), .im (.sc (.int .i64 t.cond.kind)), .im (.sc (.string t.cond.name)), .im (.sc (.int .i64 t.cond.n)), .im (.sc (.int .i64 t.cond.ty.kind)), .os q0 t.cond.ty.labels.length, .os q1 t.cond.ty.args.length, .os q2 t.cond.labels.length, .os q3 t.cond.args.length, .os q4 t.cols.length, .im (.sc (.string t.key))]) := by
  intro q0 q1 q2 q3 q4 hq
  obtain ⟨p, hp⟩ := pml [1000, 1002, 1004, 1006, 1008] [q0, q1, q2, q3, q4] (by decide) hq rfl
  simp only [List.map_cons, List.map_nil, List.cons.injEq, and_true] at hp
  refine ((toView_w t h).rows.pm p).as ?_ ?_ <;> simp [rowS, rowO, renS, Ob.ren, TV.ren, renL, Cell.ren, hp]

def fc12SView := (ai (ai (ai (ai (ai sz4 ag4) (ai zv4 un4)) (ai (ai sz9 ag9) (ai zv9 (ai un9 sz25)))) (ai (ai (ai ag25 zv25) (ai sb25 (ai un25 el25))) (ai (ai ap25 sz46) (ai ag46 (ai zv46 fl46_0))))) (ai (ai (ai (ai fl46_1 fl46_2) (ai fl46_3 fl46_4)) (ai (ai fl46_5 pl46) (ai sz48 (ai ag48 zv48)))) (ai (ai (ai fl48_0 fl48_1) (ai fl48_2 (ai fl48_3 pl48))) (ai (ai okf44 okf45) (ai sz3 (ai sz43 sz44))))))
theorem eqView_ok (t : Vw) (h : okVw (2^20) t) : FnS Tryz.prog 12 [] [agT (eVw t), agT (eVw t)] [] (bT true) := by
  refine FnS.go [0, 1, 2, 3, 4, 9, 15, 21, 26] [] Tryz.func12 rfl (fun kt kz => ?_)
  have fcx := fc12SView
  simp only [Tryz.f12]
  have ho := okVw_iff.1 h
  refine Run ((ai @eVw_eta (ai @eTm_eta @eTy_eta))) ?_; with_reducible repeat' (first | exact True.intro | refine Lf.mk ?_ ?_ | intro hb)
  refine Cal ((ai @eVw_eta (ai @eTm_eta @eTy_eta))) (eqTerm_ok _ ho.2.1) ?_
  refine Run ((ai @eVw_eta (ai @eTm_eta @eTy_eta))) ?_; with_reducible repeat' (first | exact True.intro | refine Lf.mk ?_ ?_ | intro hb)
  refine Cal ((ai @eVw_eta (ai @eTm_eta @eTy_eta))) (eqStringS_rf _ ho.2.2.1) ?_
  refine Run ((ai @eVw_eta (ai @eTm_eta @eTy_eta))) ?_; with_reducible repeat' (first | exact True.intro | refine Lf.mk ?_ ?_ | intro hb)

theorem toView_ok (t : Vw) (h : okVw (2^20) t) : FnP Tryz.prog 9 [agT (eVw t)] (agT (eVw t)) := (toView_o t h 1000 1002 1004 1006 1008 (by decide)).tree (by simp -dsimp (maxSteps := 2000000) (disch := omega) only [vs, ↓Option.bind_some, ev1, ofV, scalarB, Kn, Kb, calleeOf, evLoad, ptr, evField, evFieldAddr, shift, ↓pt_at, ↓pt_at1, evExtract, evBin, evLen, evConv, cellsT, noS, Cell.has, Cell.hasN, Cell.anyN, toIV, toIV0, toIVs, ownC, srcM, Ob.own, Ob.esz, allSc, nilK, lenC, ownCell, isPtr, ptrNil, frzO, Cell.frz, Cell.keys, ↓reduceIte, reduceCtorEq, Nat.reduceEqDiff, Nat.reduceBEq, Nat.reduceBNe, Nat.reduceAdd, Nat.reduceMul, Nat.reduceSub, Nat.reduceLT, Nat.reduceLeDiff, Nat.reducePow, Int.reduceLT, Int.reduceLE, Int.reduceEq, Int.reduceNe, quietB, Nat.reduceMod, Int.reduceToNat, ne_eq, eq_self, exists_const, evBytes, byRow, byL, byStr_size, ifsz, ByteArray.size_append, Option.none_or, Option.some_or, evLook, keyD, eVw_eta, eTm_eta, eTy_eta])

end Go.VC.T
/- The law of IsView: it says yes. -/
namespace Go.VC.T
open Go Go.VC Go.Proofs Go.VC.F
end Go.VC.T
/- Data (Type): how they are marked. -/
namespace Go.VC.T
open Go Go.VC Go.Proofs Go.VC.F
def fc55MType := (ai (ai (ai (ai sz3 (ai ag3 zv3)) (ai (ai un3 sz4) (ai ag4 zv4))) (ai (ai (ai un4 sz25) (ai ag25 zv25)) (ai (ai sb25 un25) (ai el25 ap25)))) (ai (ai (ai (ai sz41 ag41) (ai zv41 sb41)) (ai (ai un41 el41) (ai ap41 sz43))) (ai (ai (ai ag43 zv43) (ai fl43_0 fl43_1)) (ai (ai fl43_2 pl43) (ai okf54 okf55)))))
theorem markTypeS_of (xs : List Ty) (H0 : ∀ t ∈ xs, ∀ k : Int, 0 ≤ k ∧ k + (cnL (t.args.flatMap eTy) : Int) ≤ 2^60 → FnS Tryz.prog 55 [(1, .row t.args.length (t.args.flatMap eTy))] [.c (.os 1 t.args.length), iT k] [(1, .row t.args.length (mkL mT k (t.args.flatMap eTy)))] (iT (k + (cnL (t.args.flatMap eTy) : Int)))) (k : Int) (hk : 0 ≤ k ∧ k + (cnL (xs.flatMap eTy) : Int) ≤ 2^60) : FnS Tryz.prog 55 [(1, .row xs.length (xs.flatMap eTy))] [.c (.os 1 xs.length), iT k] [(1, .row xs.length (mkL mT k (xs.flatMap eTy)))] (iT (k + (cnL (xs.flatMap eTy) : Int))) := by
  refine FnS.go [0, 1, 4, 5, 9] [] Tryz.func55 rfl (fun kt kz => ?_)
  have fcx := fc55MType
  simp only [Tryz.f55]
  have hx : xs.length ≤ 2^60 := by have := cnL_len (E := eTy) (xs := xs); omega
  refine Run (cast_succ) ?_; with_reducible repeat' (first | exact True.intro | refine Lf.mk ?_ ?_ | intro hb)
  refine Trn (α := Nat) [1, 5, 6, 7, 8, 9, 10, 11, 12, 13, 14, 15, 16, 17, 18, 19, 20, 21, 22, 23, 24, 25, 26, 27, 28, 29, 30, 31, 32] (fun i => [(5, iT i), (1, iT (k + (cnT eTy xs i : Int)))]) (fun i => [(1, .row xs.length (mkA mT eTy k xs i ++ (xs.drop i).flatMap eTy))]) (fun i => i ≤ xs.length) (fun i => xs.length - i) (0) (Nat.zero_le _) ((ai (ai (mkA_zero mT (E := eTy) (k := k) (xs := xs)) (cnT_zero (E := eTy) (xs := xs))) (ai (List.drop_zero (l := xs)) (ai @Int.ofNat_zero @Int.add_zero)))) ?_; intro lx hI; obtain i := lx; (try simp only [List.nil_append, List.cons_append] at hI ⊢)
  by_cases hlt : lx < xs.length
  · have hA : (mkA mT eTy k xs lx).length = lx * 3 := by have := mkA_len mT (E := eTy) (k := k) (Nat.le_of_lt hlt); omega
    have hd := drop_flat (E := eTy) hlt
    rw [eTy_eta] at hd
    have hc := cnT_le (E := eTy) (xs := xs) (i := lx + 1)
    have ecn : cnT eTy xs (lx + 1) = cnT eTy xs lx + (1 + cnL (xs[lx].labels.flatMap eS) + cnL (xs[lx].args.flatMap eTy)) := by rw [cnT_succ hlt]; (simp only [eTy_eta, slI, cnL_i, cnL_s, cnL_l, cnL_n]) <;> omega
    have e : k + (cnT eTy xs lx : Int) + 1 + (cnL (xs[lx].labels.flatMap eS) : Int) + (cnL (xs[lx].args.flatMap eTy) : Int) = k + (cnT eTy xs (lx + 1) : Int) := by omega
    have ec : mkA mT eTy k xs lx ++ (.sc (.int .i64 (k + (cnT eTy xs lx : Int))) :: .sl xs[lx].labels.length (mkL mT (k + (cnT eTy xs lx : Int) + 1) (xs[lx].labels.flatMap eS)) :: .sl xs[lx].args.length (mkL mT (k + (cnT eTy xs lx : Int) + 1 + (cnL (xs[lx].labels.flatMap eS) : Int)) (xs[lx].args.flatMap eTy)) :: (xs.drop (lx + 1)).flatMap eTy) = mkA mT eTy k xs (lx + 1) ++ (xs.drop (lx + 1)).flatMap eTy := by rw [mkA_succ mT hlt]; simp only [eTy_eta, slI, mkL_i, mkL_s, mkL_l, mkL_n, List.append_assoc, List.cons_append, List.nil_append]
    refine Run ((ai (ai (ai @hd @hlt) (ai @ivl (ai @iv0 @ivs))) (ai (ai @ownCells_get (ai (mid_set0 hA) (mid_set 1 hA))) (ai (mid_get 1 hA) (ai (mid_set 2 hA) (mid_get 2 hA)))))) ?_; with_reducible repeat' (first | exact True.intro | refine Lf.mk ?_ ?_ | intro hb)
    refine CalN (⟨⟩ : Nsk (1) (1) ((lx * 3 + 1))) ((ai (ai (ai @hd @hlt) (ai @ivl (ai @iv0 @ivs))) (ai (ai @ownCells_get (ai (mid_set0 hA) (mid_set 1 hA))) (ai (mid_get 1 hA) (ai (mid_set 2 hA) (mid_get 2 hA)))))) (markStringS_ok (xs[lx].labels) (k + (cnT eTy xs lx : Int) + 1) ⟨by omega, by omega⟩) ?_
    refine Run ((ai (ai (ai @hd @hlt) (ai @ivl (ai @iv0 @ivs))) (ai (ai @ownCells_get (ai (mid_set0 hA) (mid_set 1 hA))) (ai (mid_get 1 hA) (ai (mid_set 2 hA) (mid_get 2 hA)))))) ?_; with_reducible repeat' (first | exact True.intro | refine Lf.mk ?_ ?_ | intro hb)
    refine CalN (⟨⟩ : Nsk (1) (1) ((lx * 3 + 2))) ((ai (ai (ai @hd @hlt) (ai @ivl (ai @iv0 @ivs))) (ai (ai @ownCells_get (ai (mid_set0 hA) (mid_set 1 hA))) (ai (mid_get 1 hA) (ai (mid_set 2 hA) (mid_get 2 hA)))))) (H0 _ (List.getElem_mem hlt) (k + (cnT eTy xs lx : Int) + 1 + (cnL (xs[lx].labels.flatMap eS) : Int)) ⟨by omega, by omega⟩) ?_
    refine Run ((ai (ai (ai @hd @hlt) (ai @ivl (ai @iv0 @ivs))) (ai (ai @ownCells_get (ai (mid_set0 hA) (mid_set 1 hA))) (ai (mid_get 1 hA) (ai (mid_set 2 hA) (mid_get 2 hA)))))) ?_; with_reducible repeat' (first | exact True.intro | refine Lf.mk ?_ ?_ | intro hb)
    exact Nxt ((ai @e @ec)) (lx + 1) (by omega) (by first | omega | (simp; omega))
  · have hge : xs.length ≤ lx := by omega
    have e1 := cnT_all (E := eTy) hge
    have e2 := mkA_all mT (E := eTy) (k := k) hge
    have e3 := drop_all (E := eTy) hge
    refine Run ((ai (ai @e1 @e2) (ai @e3 @hlt))) ?_; with_reducible repeat' (first | exact True.intro | refine Lf.mk ?_ ?_ | intro hb)

theorem markTypeS_ok (xs : List Ty) (k : Int) (hk : 0 ≤ k ∧ k + (cnL (xs.flatMap eTy) : Int) ≤ 2^60) : FnS Tryz.prog 55 [(1, .row xs.length (xs.flatMap eTy))] [.c (.os 1 xs.length), iT k] [(1, .row xs.length (mkL mT k (xs.flatMap eTy)))] (iT (k + (cnL (xs.flatMap eTy) : Int))) := markTypeS_of xs (fun t ht => markTypeS_ok (t.args)) k hk
termination_by SizeOf.sizeOf xs
decreasing_by all_goals (have := List.sizeOf_lt_of_mem ht; first | (have := Ty.lt_args t; omega) | (have := Val.lt_args t; omega) | (have := Tm.lt_args t; omega) | (have := Pl.lt_args t; omega) | (have := Hd.lt_parts t; omega) | (have := Hd.lt_query t; omega) | (have := Cmp.lt_parts t; omega) | (have := Cmp.lt_query t; omega))
theorem markTypeS_q (xs : List Ty) (k : Int) (hk : 0 ≤ k ∧ k + (cnL (xs.flatMap eTy) : Int) ≤ 2^60) (q : Nat) : FnS Tryz.prog 55 [(q, .row xs.length (xs.flatMap eTy))] [.c (.os q xs.length), iT k] [(q, .row xs.length (mkL mT k (xs.flatMap eTy)))] (iT (k + (cnL (xs.flatMap eTy) : Int))) := by
  obtain ⟨p, hp⟩ := pm1 1 q
  refine ((markTypeS_ok xs k hk).renA p).asA ?_ ?_ ?_ ?_ <;> simp [renS, Ob.ren, TV.ren, Cell.ren, hp]
def fc57MType := (ai (ai (ai (ai sz3 (ai ag3 zv3)) (ai (ai un3 sz4) (ai ag4 zv4))) (ai (ai (ai un4 sz25) (ai ag25 zv25)) (ai (ai sb25 un25) (ai el25 ap25)))) (ai (ai (ai (ai sz41 ag41) (ai zv41 sb41)) (ai (ai un41 el41) (ai ap41 sz43))) (ai (ai (ai ag43 zv43) (ai fl43_0 fl43_1)) (ai (ai fl43_2 pl43) (ai okf56 okf57)))))
theorem heldTypeS_of (xs : List Ty) (H0 : ∀ t ∈ xs, ∀ k : Int, 0 ≤ k ∧ k + (cnL (t.args.flatMap eTy) : Int) ≤ 2^60 → FnP Tryz.prog 57 [.c (.im (.sl t.args.length (mkL mT k (t.args.flatMap eTy)))), iT k] (iT (k + (cnL (t.args.flatMap eTy) : Int)))) (k : Int) (hk : 0 ≤ k ∧ k + (cnL (xs.flatMap eTy) : Int) ≤ 2^60) : FnS Tryz.prog 57 [] [.c (.im (.sl xs.length (mkL mT k (xs.flatMap eTy)))), iT k] [] (iT (k + (cnL (xs.flatMap eTy) : Int))) := by
  refine FnS.go [0, 1, 4, 5, 9, 18, 29, 38] [] Tryz.func57 rfl (fun kt kz => ?_)
  have fcx := fc57MType
  simp only [Tryz.f57]
  have hx : xs.length ≤ 2^60 := by have := cnL_len (E := eTy) (xs := xs); omega
  refine Run (cast_succ) ?_; with_reducible repeat' (first | exact True.intro | refine Lf.mk ?_ ?_ | intro hb)
  refine Trn (α := Nat) [1, 4, 5, 6, 7, 8, 9, 10, 11, 12, 13, 14, 15, 16, 17, 18, 19, 20, 21, 22, 23, 24, 25, 26, 27, 28, 29, 30, 31, 32, 33, 34, 35, 36, 37, 38] (fun i => [(5, iT i), (1, iT (k + (cnT eTy xs i : Int)))]) (fun i => []) (fun i => i ≤ xs.length) (fun i => xs.length - i) (0) (Nat.zero_le _) ((ai (cnT_zero (E := eTy) (xs := xs)) (ai @Int.ofNat_zero @Int.add_zero))) ?_; intro lx hI; obtain i := lx; (try simp only [List.nil_append, List.cons_append] at hI ⊢)
  by_cases hlt : lx < xs.length
  · have hp := pt_mk mT (E := eTy) (k := k) hlt
    simp only [eTy_eta, slI, mkL_i, mkL_s, mkL_l, mkL_n, List.cons_append, List.nil_append] at hp
    have hc := cnT_le (E := eTy) (xs := xs) (i := lx + 1)
    have ecn : cnT eTy xs (lx + 1) = cnT eTy xs lx + (1 + cnL (xs[lx].labels.flatMap eS) + cnL (xs[lx].args.flatMap eTy)) := by rw [cnT_succ hlt]; (simp only [eTy_eta, slI, cnL_i, cnL_s, cnL_l, cnL_n]) <;> omega
    have e : k + (cnT eTy xs lx : Int) + 1 + (cnL (xs[lx].labels.flatMap eS) : Int) + (cnL (xs[lx].args.flatMap eTy) : Int) = k + (cnT eTy xs (lx + 1) : Int) := by omega
    refine Run ((ai @hp @hlt)) ?_; with_reducible repeat' (first | exact True.intro | refine Lf.mk ?_ ?_ | intro hb)
    refine Cal ((ai @hp @hlt)) (heldStringS_ok (xs[lx].labels) (k + (cnT eTy xs lx : Int) + 1) ⟨by omega, by omega⟩) ?_
    have hn1 : ((k + (cnT eTy xs lx : Int) + 1 + (cnL (xs[lx].labels.flatMap eS) : Int)) < 0) = False := eq_false (by omega)
    refine Run ((ai @hp (ai @hlt @hn1))) ?_; with_reducible repeat' (first | exact True.intro | refine Lf.mk ?_ ?_ | intro hb)
    refine Cal ((ai @hp (ai @hlt @hn1))) (H0 _ (List.getElem_mem hlt) (k + (cnT eTy xs lx : Int) + 1 + (cnL (xs[lx].labels.flatMap eS) : Int)) ⟨by omega, by omega⟩) ?_
    have hn2 : ((k + (cnT eTy xs lx : Int) + 1 + (cnL (xs[lx].labels.flatMap eS) : Int) + (cnL (xs[lx].args.flatMap eTy) : Int)) < 0) = False := eq_false (by omega)
    refine Run ((ai (ai @hp @hlt) (ai @hn1 @hn2))) ?_; with_reducible repeat' (first | exact True.intro | refine Lf.mk ?_ ?_ | intro hb)
    exact Nxt (@e) (lx + 1) (by omega) (by first | omega | (simp; omega))
  · have hge : xs.length ≤ lx := by omega
    have e1 := cnT_all (E := eTy) hge
    refine Run ((ai @e1 @hlt)) ?_; with_reducible repeat' (first | exact True.intro | refine Lf.mk ?_ ?_ | intro hb)

theorem heldTypeS_ok (xs : List Ty) (k : Int) (hk : 0 ≤ k ∧ k + (cnL (xs.flatMap eTy) : Int) ≤ 2^60) : FnP Tryz.prog 57 [.c (.im (.sl xs.length (mkL mT k (xs.flatMap eTy)))), iT k] (iT (k + (cnL (xs.flatMap eTy) : Int))) := heldTypeS_of xs (fun t ht => heldTypeS_ok (t.args)) k hk
termination_by SizeOf.sizeOf xs
decreasing_by all_goals (have := List.sizeOf_lt_of_mem ht; first | (have := Ty.lt_args t; omega) | (have := Val.lt_args t; omega) | (have := Tm.lt_args t; omega) | (have := Pl.lt_args t; omega) | (have := Hd.lt_parts t; omega) | (have := Hd.lt_query t; omega) | (have := Cmp.lt_parts t; omega) | (have := Cmp.lt_query t; omega))
def fc18MType := (ai (ai (ai (ai sz3 (ai ag3 zv3)) (ai un3 (ai sz25 ag25))) (ai (ai zv25 (ai sb25 un25)) (ai (ai el25 ap25) (ai sz41 ag41)))) (ai (ai (ai zv41 (ai sb41 un41)) (ai (ai el41 ap41) (ai sz43 ag43))) (ai (ai zv43 (ai fl43_0 fl43_1)) (ai (ai fl43_2 pl43) (ai okf54 okf55)))))
theorem markType_w (t : Ty) (k : Int) (hk : 0 ≤ k ∧ k + (cnL (t.labels.flatMap eS) : Int) + (cnL (t.args.flatMap eTy) : Int) ≤ 2^60) : FnS Tryz.prog 18 [(1, .row t.labels.length (t.labels.flatMap eS)), (3, .row t.args.length (t.args.flatMap eTy))] [.ag [.im (.sc (.int .i64 t.kind)), .os 1 t.labels.length, .os 3 t.args.length], iT k] [(1, .row t.labels.length (mkL mT (k) (t.labels.flatMap eS))), (3, .row t.args.length (mkL mT (k + (cnL (t.labels.flatMap eS) : Int)) (t.args.flatMap eTy)))] (iT (k + (cnL (t.labels.flatMap eS) : Int) + (cnL (t.args.flatMap eTy) : Int))) := by
  refine FnS.go [0, 1, 2, 4] [] Tryz.func18 rfl (fun kt kz => ?_) (hodd := by refine oddS _ ?_; simp)
  have fcx := fc18MType
  simp only [Tryz.f18]
  refine Run (cast_succ) ?_; with_reducible repeat' (first | exact True.intro | refine Lf.mk ?_ ?_ | intro hb)
  refine CalO (cast_succ) (markStringS_q t.labels (k) ⟨by omega, by omega⟩ 1) ?_
  refine Run (cast_succ) ?_; with_reducible repeat' (first | exact True.intro | refine Lf.mk ?_ ?_ | intro hb)
  refine CalO (cast_succ) (markTypeS_q t.args (k + (cnL (t.labels.flatMap eS) : Int)) ⟨by omega, by omega⟩ 3) ?_
  refine Run (cast_succ) ?_; with_reducible repeat' (first | exact True.intro | refine Lf.mk ?_ ?_ | intro hb)

theorem markType_q (t : Ty) (k : Int) (hk : 0 ≤ k ∧ k + (cnL (t.labels.flatMap eS) : Int) + (cnL (t.args.flatMap eTy) : Int) ≤ 2^60) (q0 q1 : Nat) (hq : [q0, q1].Nodup) : FnS Tryz.prog 18 [(q0, .row t.labels.length (t.labels.flatMap eS)), (q1, .row t.args.length (t.args.flatMap eTy))] [.ag [.im (.sc (.int .i64 t.kind)), .os q0 t.labels.length, .os q1 t.args.length], iT k] [(q0, .row t.labels.length (mkL mT (k) (t.labels.flatMap eS))), (q1, .row t.args.length (mkL mT (k + (cnL (t.labels.flatMap eS) : Int)) (t.args.flatMap eTy)))] (iT (k + (cnL (t.labels.flatMap eS) : Int) + (cnL (t.args.flatMap eTy) : Int))) := by
  obtain ⟨p, hp⟩ := pml [1, 3] [q0, q1] (by decide) hq rfl
  simp only [List.map_cons, List.map_nil, List.cons.injEq, and_true] at hp
  refine ((markType_w t k hk).renA p).asA ?_ ?_ ?_ ?_ <;> simp [renS, Ob.ren, TV.ren, renL, Cell.ren, hp]
def hType (k : Int) (t : Ty) : List IV := [.sc (.int .i64 t.kind), .sl t.labels.length (mkL mT (k) (t.labels.flatMap eS)), .sl t.args.length (mkL mT (k + (cnL (t.labels.flatMap eS) : Int)) (t.args.flatMap eTy))]
def fc19MType := (ai (ai (ai (ai sz3 (ai ag3 zv3)) (ai (ai un3 sz4) (ai ag4 zv4))) (ai (ai (ai un4 sz25) (ai ag25 zv25)) (ai (ai sb25 un25) (ai el25 ap25)))) (ai (ai (ai (ai sz41 ag41) (ai zv41 sb41)) (ai (ai un41 el41) (ai ap41 sz43))) (ai (ai (ai ag43 zv43) (ai fl43_0 fl43_1)) (ai (ai fl43_2 pl43) (ai okf56 okf57)))))
theorem heldType_ok (t : Ty) (k : Int) (hk : 0 ≤ k ∧ k + (cnL (t.labels.flatMap eS) : Int) + (cnL (t.args.flatMap eTy) : Int) ≤ 2^60) : FnS Tryz.prog 19 [] [agT (hType k t), iT k] [] (iT (k + (cnL (t.labels.flatMap eS) : Int) + (cnL (t.args.flatMap eTy) : Int))) := by
  refine FnS.go [0, 1, 2, 4, 10, 16] [] Tryz.func19 rfl (fun kt kz => ?_)
  have fcx := fc19MType
  simp only [Tryz.f19]
  refine Run (@hType.eq_1) ?_; with_reducible repeat' (first | exact True.intro | refine Lf.mk ?_ ?_ | intro hb)
  refine Cal (@hType.eq_1) (heldStringS_ok t.labels (k) ⟨by omega, by omega⟩) ?_
  have hn1 : ((k + (cnL (t.labels.flatMap eS) : Int)) < 0) = False := eq_false (by omega)
  refine Run ((ai @hType.eq_1 @hn1)) ?_; with_reducible repeat' (first | exact True.intro | refine Lf.mk ?_ ?_ | intro hb)
  refine Cal ((ai @hType.eq_1 @hn1)) (heldTypeS_ok t.args (k + (cnL (t.labels.flatMap eS) : Int)) ⟨by omega, by omega⟩) ?_
  have hn2 : ((k + (cnL (t.labels.flatMap eS) : Int) + (cnL (t.args.flatMap eTy) : Int)) < 0) = False := eq_false (by omega)
  refine Run ((ai @hType.eq_1 (ai @hn1 @hn2))) ?_; with_reducible repeat' (first | exact True.intro | refine Lf.mk ?_ ?_ | intro hb)


end Go.VC.T
/- Data (Term): how they are marked. -/
namespace Go.VC.T
open Go Go.VC Go.Proofs Go.VC.F
def fc81MTerm := (ai (ai (ai (ai (ai sz3 (ai ag3 zv3)) (ai un3 (ai sz4 ag4))) (ai (ai zv4 (ai un4 sz9)) (ai (ai ag9 zv9) (ai un9 sz25)))) (ai (ai (ai ag25 (ai zv25 sb25)) (ai (ai un25 el25) (ai ap25 sz41))) (ai (ai ag41 (ai zv41 sb41)) (ai (ai un41 el41) (ai ap41 sz43))))) (ai (ai (ai (ai ag43 (ai zv43 fl43_0)) (ai fl43_1 (ai fl43_2 pl43))) (ai (ai sz44 (ai ag44 zv44)) (ai (ai sb44 un44) (ai el44 ap44)))) (ai (ai (ai sz46 (ai ag46 zv46)) (ai (ai fl46_0 fl46_1) (ai fl46_2 fl46_3))) (ai (ai fl46_4 (ai fl46_5 pl46)) (ai (ai okf54 okf55) (ai okf80 okf81))))))
theorem markTermS_of (xs : List Tm) (H0 : ∀ t ∈ xs, ∀ k : Int, 0 ≤ k ∧ k + (cnL (t.args.flatMap eTm) : Int) ≤ 2^60 → FnS Tryz.prog 81 [(1, .row t.args.length (t.args.flatMap eTm))] [.c (.os 1 t.args.length), iT k] [(1, .row t.args.length (mkL mT k (t.args.flatMap eTm)))] (iT (k + (cnL (t.args.flatMap eTm) : Int)))) (k : Int) (hk : 0 ≤ k ∧ k + (cnL (xs.flatMap eTm) : Int) ≤ 2^60) : FnS Tryz.prog 81 [(1, .row xs.length (xs.flatMap eTm))] [.c (.os 1 xs.length), iT k] [(1, .row xs.length (mkL mT k (xs.flatMap eTm)))] (iT (k + (cnL (xs.flatMap eTm) : Int))) := by
  refine FnS.go [0, 1, 4, 5, 9] [] Tryz.func81 rfl (fun kt kz => ?_)
  have fcx := fc81MTerm
  simp only [Tryz.f81]
  have hx : xs.length ≤ 2^60 := by have := cnL_len (E := eTm) (xs := xs); omega
  refine Run (cast_succ) ?_; with_reducible repeat' (first | exact True.intro | refine Lf.mk ?_ ?_ | intro hb)
  refine Trn (α := Nat) [1, 5, 6, 7, 8, 9, 10, 11, 12, 13, 14, 15, 16, 17, 18, 19, 20, 21, 22, 23, 24, 25, 26, 27, 28, 29, 30, 31, 32, 33, 34, 35, 36, 37, 38, 39, 40, 41, 42, 43, 44, 45, 46, 47, 48, 49, 50, 51, 52, 53, 54, 55, 56, 57, 58, 59, 60, 61, 62, 63, 64, 65, 66, 67, 68, 69, 70, 71] (fun i => [(5, iT i), (1, iT (k + (cnT eTm xs i : Int)))]) (fun i => [(1, .row xs.length (mkA mT eTm k xs i ++ (xs.drop i).flatMap eTm))]) (fun i => i ≤ xs.length) (fun i => xs.length - i) (0) (Nat.zero_le _) ((ai (ai (mkA_zero mT (E := eTm) (k := k) (xs := xs)) (cnT_zero (E := eTm) (xs := xs))) (ai (List.drop_zero (l := xs)) (ai @Int.ofNat_zero @Int.add_zero)))) ?_; intro lx hI; obtain i := lx; (try simp only [List.nil_append, List.cons_append] at hI ⊢)
  by_cases hlt : lx < xs.length
  · have hA : (mkA mT eTm k xs lx).length = lx * 8 := by have := mkA_len mT (E := eTm) (k := k) (Nat.le_of_lt hlt); omega
    have hd := drop_flat (E := eTm) hlt
    rw [eTm_eta] at hd
    have hc := cnT_le (E := eTm) (xs := xs) (i := lx + 1)
    have ecn : cnT eTm xs (lx + 1) = cnT eTm xs lx + (1 + 1 + 1 + 1 + cnL (xs[lx].ty.labels.flatMap eS) + cnL (xs[lx].ty.args.flatMap eTy) + cnL (xs[lx].labels.flatMap eS) + cnL (xs[lx].args.flatMap eTm)) := by rw [cnT_succ hlt]; (simp only [eTm_eta, slI, cnL_i, cnL_s, cnL_l, cnL_n]) <;> omega
    have e : k + (cnT eTm xs lx : Int) + 1 + 1 + 1 + 1 + (cnL (xs[lx].ty.labels.flatMap eS) : Int) + (cnL (xs[lx].ty.args.flatMap eTy) : Int) + (cnL (xs[lx].labels.flatMap eS) : Int) + (cnL (xs[lx].args.flatMap eTm) : Int) = k + (cnT eTm xs (lx + 1) : Int) := by omega
    have ec : mkA mT eTm k xs lx ++ (.sc (.int .i64 (k + (cnT eTm xs lx : Int))) :: .sc (.string (mT (k + (cnT eTm xs lx : Int) + 1))) :: .sc (.int .i64 (k + (cnT eTm xs lx : Int) + 1 + 1)) :: .sc (.int .i64 (k + (cnT eTm xs lx : Int) + 1 + 1 + 1)) :: .sl xs[lx].ty.labels.length (mkL mT (k + (cnT eTm xs lx : Int) + 1 + 1 + 1 + 1) (xs[lx].ty.labels.flatMap eS)) :: .sl xs[lx].ty.args.length (mkL mT (k + (cnT eTm xs lx : Int) + 1 + 1 + 1 + 1 + (cnL (xs[lx].ty.labels.flatMap eS) : Int)) (xs[lx].ty.args.flatMap eTy)) :: .sl xs[lx].labels.length (mkL mT (k + (cnT eTm xs lx : Int) + 1 + 1 + 1 + 1 + (cnL (xs[lx].ty.labels.flatMap eS) : Int) + (cnL (xs[lx].ty.args.flatMap eTy) : Int)) (xs[lx].labels.flatMap eS)) :: .sl xs[lx].args.length (mkL mT (k + (cnT eTm xs lx : Int) + 1 + 1 + 1 + 1 + (cnL (xs[lx].ty.labels.flatMap eS) : Int) + (cnL (xs[lx].ty.args.flatMap eTy) : Int) + (cnL (xs[lx].labels.flatMap eS) : Int)) (xs[lx].args.flatMap eTm)) :: (xs.drop (lx + 1)).flatMap eTm) = mkA mT eTm k xs (lx + 1) ++ (xs.drop (lx + 1)).flatMap eTm := by rw [mkA_succ mT hlt]; simp only [eTm_eta, slI, mkL_i, mkL_s, mkL_l, mkL_n, List.append_assoc, List.cons_append, List.nil_append]
    refine Run ((ai (ai (ai (ai @hd @hlt) (ai @ivl @iv0)) (ai (ai @ivs @ownCells_get) (ai (mid_set0 hA) (ai (mid_set 1 hA) (mid_set 2 hA))))) (ai (ai (ai (mid_set 3 hA) (mid_set 4 hA)) (ai (mid_get 4 hA) (mid_set 5 hA))) (ai (ai (mid_get 5 hA) (mid_set 6 hA)) (ai (mid_get 6 hA) (ai (mid_set 7 hA) (mid_get 7 hA))))))) ?_; with_reducible repeat' (first | exact True.intro | refine Lf.mk ?_ ?_ | intro hb)
    refine Cal ((ai (ai (ai (ai @hd @hlt) (ai @ivl @iv0)) (ai (ai @ivs @ownCells_get) (ai (mid_set0 hA) (ai (mid_set 1 hA) (mid_set 2 hA))))) (ai (ai (ai (mid_set 3 hA) (mid_set 4 hA)) (ai (mid_get 4 hA) (mid_set 5 hA))) (ai (ai (mid_get 5 hA) (mid_set 6 hA)) (ai (mid_get 6 hA) (ai (mid_set 7 hA) (mid_get 7 hA))))))) (markText_ok (k + (cnT eTm xs lx : Int) + 1) (by omega)) ?_
    refine Run ((ai (ai (ai (ai @hd @hlt) (ai @ivl @iv0)) (ai (ai @ivs @ownCells_get) (ai (mid_set0 hA) (ai (mid_set 1 hA) (mid_set 2 hA))))) (ai (ai (ai (mid_set 3 hA) (mid_set 4 hA)) (ai (mid_get 4 hA) (mid_set 5 hA))) (ai (ai (mid_get 5 hA) (mid_set 6 hA)) (ai (mid_get 6 hA) (ai (mid_set 7 hA) (mid_get 7 hA))))))) ?_; with_reducible repeat' (first | exact True.intro | refine Lf.mk ?_ ?_ | intro hb)
    refine CalN (⟨⟩ : Nsk (1) (1) ((lx * 8 + 4))) ((ai (ai (ai (ai @hd @hlt) (ai @ivl @iv0)) (ai (ai @ivs @ownCells_get) (ai (mid_set0 hA) (ai (mid_set 1 hA) (mid_set 2 hA))))) (ai (ai (ai (mid_set 3 hA) (mid_set 4 hA)) (ai (mid_get 4 hA) (mid_set 5 hA))) (ai (ai (mid_get 5 hA) (mid_set 6 hA)) (ai (mid_get 6 hA) (ai (mid_set 7 hA) (mid_get 7 hA))))))) (markStringS_ok (xs[lx].ty.labels) (k + (cnT eTm xs lx : Int) + 1 + 1 + 1 + 1) ⟨by omega, by omega⟩) ?_
    refine Run ((ai (ai (ai (ai @hd @hlt) (ai @ivl @iv0)) (ai (ai @ivs @ownCells_get) (ai (mid_set0 hA) (ai (mid_set 1 hA) (mid_set 2 hA))))) (ai (ai (ai (mid_set 3 hA) (mid_set 4 hA)) (ai (mid_get 4 hA) (mid_set 5 hA))) (ai (ai (mid_get 5 hA) (mid_set 6 hA)) (ai (mid_get 6 hA) (ai (mid_set 7 hA) (mid_get 7 hA))))))) ?_; with_reducible repeat' (first | exact True.intro | refine Lf.mk ?_ ?_ | intro hb)
    refine CalN (⟨⟩ : Nsk (1) (1) ((lx * 8 + 5))) ((ai (ai (ai (ai @hd @hlt) (ai @ivl @iv0)) (ai (ai @ivs @ownCells_get) (ai (mid_set0 hA) (ai (mid_set 1 hA) (mid_set 2 hA))))) (ai (ai (ai (mid_set 3 hA) (mid_set 4 hA)) (ai (mid_get 4 hA) (mid_set 5 hA))) (ai (ai (mid_get 5 hA) (mid_set 6 hA)) (ai (mid_get 6 hA) (ai (mid_set 7 hA) (mid_get 7 hA))))))) (markTypeS_ok (xs[lx].ty.args) (k + (cnT eTm xs lx : Int) + 1 + 1 + 1 + 1 + (cnL (xs[lx].ty.labels.flatMap eS) : Int)) ⟨by omega, by omega⟩) ?_
    refine Run ((ai (ai (ai (ai @hd @hlt) (ai @ivl @iv0)) (ai (ai @ivs @ownCells_get) (ai (mid_set0 hA) (ai (mid_set 1 hA) (mid_set 2 hA))))) (ai (ai (ai (mid_set 3 hA) (mid_set 4 hA)) (ai (mid_get 4 hA) (mid_set 5 hA))) (ai (ai (mid_get 5 hA) (mid_set 6 hA)) (ai (mid_get 6 hA) (ai (mid_set 7 hA) (mid_get 7 hA))))))) ?_; with_reducible repeat' (first | exact True.intro | refine Lf.mk ?_ ?_ | intro hb)
    refine CalN (⟨⟩ : Nsk (1) (1) ((lx * 8 + 6))) ((ai (ai (ai (ai @hd @hlt) (ai @ivl @iv0)) (ai (ai @ivs @ownCells_get) (ai (mid_set0 hA) (ai (mid_set 1 hA) (mid_set 2 hA))))) (ai (ai (ai (mid_set 3 hA) (mid_set 4 hA)) (ai (mid_get 4 hA) (mid_set 5 hA))) (ai (ai (mid_get 5 hA) (mid_set 6 hA)) (ai (mid_get 6 hA) (ai (mid_set 7 hA) (mid_get 7 hA))))))) (markStringS_ok (xs[lx].labels) (k + (cnT eTm xs lx : Int) + 1 + 1 + 1 + 1 + (cnL (xs[lx].ty.labels.flatMap eS) : Int) + (cnL (xs[lx].ty.args.flatMap eTy) : Int)) ⟨by omega, by omega⟩) ?_
    refine Run ((ai (ai (ai (ai @hd @hlt) (ai @ivl @iv0)) (ai (ai @ivs @ownCells_get) (ai (mid_set0 hA) (ai (mid_set 1 hA) (mid_set 2 hA))))) (ai (ai (ai (mid_set 3 hA) (mid_set 4 hA)) (ai (mid_get 4 hA) (mid_set 5 hA))) (ai (ai (mid_get 5 hA) (mid_set 6 hA)) (ai (mid_get 6 hA) (ai (mid_set 7 hA) (mid_get 7 hA))))))) ?_; with_reducible repeat' (first | exact True.intro | refine Lf.mk ?_ ?_ | intro hb)
    refine CalN (⟨⟩ : Nsk (1) (1) ((lx * 8 + 7))) ((ai (ai (ai (ai @hd @hlt) (ai @ivl @iv0)) (ai (ai @ivs @ownCells_get) (ai (mid_set0 hA) (ai (mid_set 1 hA) (mid_set 2 hA))))) (ai (ai (ai (mid_set 3 hA) (mid_set 4 hA)) (ai (mid_get 4 hA) (mid_set 5 hA))) (ai (ai (mid_get 5 hA) (mid_set 6 hA)) (ai (mid_get 6 hA) (ai (mid_set 7 hA) (mid_get 7 hA))))))) (H0 _ (List.getElem_mem hlt) (k + (cnT eTm xs lx : Int) + 1 + 1 + 1 + 1 + (cnL (xs[lx].ty.labels.flatMap eS) : Int) + (cnL (xs[lx].ty.args.flatMap eTy) : Int) + (cnL (xs[lx].labels.flatMap eS) : Int)) ⟨by omega, by omega⟩) ?_
    refine Run ((ai (ai (ai (ai @hd @hlt) (ai @ivl @iv0)) (ai (ai @ivs @ownCells_get) (ai (mid_set0 hA) (ai (mid_set 1 hA) (mid_set 2 hA))))) (ai (ai (ai (mid_set 3 hA) (mid_set 4 hA)) (ai (mid_get 4 hA) (mid_set 5 hA))) (ai (ai (mid_get 5 hA) (mid_set 6 hA)) (ai (mid_get 6 hA) (ai (mid_set 7 hA) (mid_get 7 hA))))))) ?_; with_reducible repeat' (first | exact True.intro | refine Lf.mk ?_ ?_ | intro hb)
    exact Nxt ((ai @e @ec)) (lx + 1) (by omega) (by first | omega | (simp; omega))
  · have hge : xs.length ≤ lx := by omega
    have e1 := cnT_all (E := eTm) hge
    have e2 := mkA_all mT (E := eTm) (k := k) hge
    have e3 := drop_all (E := eTm) hge
    refine Run ((ai (ai @e1 @e2) (ai @e3 @hlt))) ?_; with_reducible repeat' (first | exact True.intro | refine Lf.mk ?_ ?_ | intro hb)

theorem markTermS_ok (xs : List Tm) (k : Int) (hk : 0 ≤ k ∧ k + (cnL (xs.flatMap eTm) : Int) ≤ 2^60) : FnS Tryz.prog 81 [(1, .row xs.length (xs.flatMap eTm))] [.c (.os 1 xs.length), iT k] [(1, .row xs.length (mkL mT k (xs.flatMap eTm)))] (iT (k + (cnL (xs.flatMap eTm) : Int))) := markTermS_of xs (fun t ht => markTermS_ok (t.args)) k hk
termination_by SizeOf.sizeOf xs
decreasing_by all_goals (have := List.sizeOf_lt_of_mem ht; first | (have := Ty.lt_args t; omega) | (have := Val.lt_args t; omega) | (have := Tm.lt_args t; omega) | (have := Pl.lt_args t; omega) | (have := Hd.lt_parts t; omega) | (have := Hd.lt_query t; omega) | (have := Cmp.lt_parts t; omega) | (have := Cmp.lt_query t; omega))
theorem markTermS_q (xs : List Tm) (k : Int) (hk : 0 ≤ k ∧ k + (cnL (xs.flatMap eTm) : Int) ≤ 2^60) (q : Nat) : FnS Tryz.prog 81 [(q, .row xs.length (xs.flatMap eTm))] [.c (.os q xs.length), iT k] [(q, .row xs.length (mkL mT k (xs.flatMap eTm)))] (iT (k + (cnL (xs.flatMap eTm) : Int))) := by
  obtain ⟨p, hp⟩ := pm1 1 q
  refine ((markTermS_ok xs k hk).renA p).asA ?_ ?_ ?_ ?_ <;> simp [renS, Ob.ren, TV.ren, Cell.ren, hp]
def fc53MTerm := (ai (ai (ai (ai (ai sz3 ag3) (ai zv3 (ai un3 sz25))) (ai (ai ag25 zv25) (ai sb25 (ai un25 el25)))) (ai (ai (ai ap25 sz43) (ai ag43 (ai zv43 fl43_0))) (ai (ai fl43_1 fl43_2) (ai pl43 (ai sz44 ag44))))) (ai (ai (ai (ai zv44 sb44) (ai un44 (ai el44 ap44))) (ai (ai sz46 ag46) (ai zv46 (ai fl46_0 fl46_1)))) (ai (ai (ai fl46_2 fl46_3) (ai fl46_4 (ai fl46_5 pl46))) (ai (ai okf18 okf54) (ai okf81 (ai sz41 sz9))))))
theorem markTerm_w (t : Tm) (k : Int) (hk : 0 ≤ k ∧ k + (cnL (t.ty.labels.flatMap eS) : Int) + (cnL (t.ty.args.flatMap eTy) : Int) + (cnL (t.labels.flatMap eS) : Int) + (cnL (t.args.flatMap eTm) : Int) ≤ 2^60) : FnS Tryz.prog 53 [(1, .row t.ty.labels.length (t.ty.labels.flatMap eS)), (3, .row t.ty.args.length (t.ty.args.flatMap eTy)), (5, .row t.labels.length (t.labels.flatMap eS)), (7, .row t.args.length (t.args.flatMap eTm))] [.ag [.im (.sc (.int .i64 t.kind)), .im (.sc (.string t.name)), .im (.sc (.int .i64 t.n)), .im (.sc (.int .i64 t.ty.kind)), .os 1 t.ty.labels.length, .os 3 t.ty.args.length, .os 5 t.labels.length, .os 7 t.args.length], iT k] [(1, .row t.ty.labels.length (mkL mT (k) (t.ty.labels.flatMap eS))), (3, .row t.ty.args.length (mkL mT (k + (cnL (t.ty.labels.flatMap eS) : Int)) (t.ty.args.flatMap eTy))), (5, .row t.labels.length (mkL mT (k + (cnL (t.ty.labels.flatMap eS) : Int) + (cnL (t.ty.args.flatMap eTy) : Int)) (t.labels.flatMap eS))), (7, .row t.args.length (mkL mT (k + (cnL (t.ty.labels.flatMap eS) : Int) + (cnL (t.ty.args.flatMap eTy) : Int) + (cnL (t.labels.flatMap eS) : Int)) (t.args.flatMap eTm)))] (iT (k + (cnL (t.ty.labels.flatMap eS) : Int) + (cnL (t.ty.args.flatMap eTy) : Int) + (cnL (t.labels.flatMap eS) : Int) + (cnL (t.args.flatMap eTm) : Int))) := by
  refine FnS.go [0, 1, 2, 4] [] Tryz.func53 rfl (fun kt kz => ?_) (hodd := by refine oddS _ ?_; simp)
  have fcx := fc53MTerm
  simp only [Tryz.f53]
  refine Run (cast_succ) ?_; with_reducible repeat' (first | exact True.intro | refine Lf.mk ?_ ?_ | intro hb)
  refine CalO (cast_succ) (markType_q t.ty (k) ⟨by omega, by omega⟩ 1 3 (by decide)) ?_
  refine Run (cast_succ) ?_; with_reducible repeat' (first | exact True.intro | refine Lf.mk ?_ ?_ | intro hb)
  refine CalO (cast_succ) (markStringS_q t.labels (k + (cnL (t.ty.labels.flatMap eS) : Int) + (cnL (t.ty.args.flatMap eTy) : Int)) ⟨by omega, by omega⟩ 5) ?_
  refine Run (cast_succ) ?_; with_reducible repeat' (first | exact True.intro | refine Lf.mk ?_ ?_ | intro hb)
  refine CalO (cast_succ) (markTermS_q t.args (k + (cnL (t.ty.labels.flatMap eS) : Int) + (cnL (t.ty.args.flatMap eTy) : Int) + (cnL (t.labels.flatMap eS) : Int)) ⟨by omega, by omega⟩ 7) ?_
  refine Run (cast_succ) ?_; with_reducible repeat' (first | exact True.intro | refine Lf.mk ?_ ?_ | intro hb)

theorem markTerm_q (t : Tm) (k : Int) (hk : 0 ≤ k ∧ k + (cnL (t.ty.labels.flatMap eS) : Int) + (cnL (t.ty.args.flatMap eTy) : Int) + (cnL (t.labels.flatMap eS) : Int) + (cnL (t.args.flatMap eTm) : Int) ≤ 2^60) (q0 q1 q2 q3 : Nat) (hq : [q0, q1, q2, q3].Nodup) : FnS Tryz.prog 53 [(q0, .row t.ty.labels.length (t.ty.labels.flatMap eS)), (q1, .row t.ty.args.length (t.ty.args.flatMap eTy)), (q2, .row t.labels.length (t.labels.flatMap eS)), (q3, .row t.args.length (t.args.flatMap eTm))] [.ag [.im (.sc (.int .i64 t.kind)), .im (.sc (.string t.name)), .im (.sc (.int .i64 t.n)), .im (.sc (.int .i64 t.ty.kind)), .os q0 t.ty.labels.length, .os q1 t.ty.args.length, .os q2 t.labels.length, .os q3 t.args.length], iT k] [(q0, .row t.ty.labels.length (mkL mT (k) (t.ty.labels.flatMap eS))), (q1, .row t.ty.args.length (mkL mT (k + (cnL (t.ty.labels.flatMap eS) : Int)) (t.ty.args.flatMap eTy))), (q2, .row t.labels.length (mkL mT (k + (cnL (t.ty.labels.flatMap eS) : Int) + (cnL (t.ty.args.flatMap eTy) : Int)) (t.labels.flatMap eS))), (q3, .row t.args.length (mkL mT (k + (cnL (t.ty.labels.flatMap eS) : Int) + (cnL (t.ty.args.flatMap eTy) : Int) + (cnL (t.labels.flatMap eS) : Int)) (t.args.flatMap eTm)))] (iT (k + (cnL (t.ty.labels.flatMap eS) : Int) + (cnL (t.ty.args.flatMap eTy) : Int) + (cnL (t.labels.flatMap eS) : Int) + (cnL (t.args.flatMap eTm) : Int))) := by
  obtain ⟨p, hp⟩ := pml [1, 3, 5, 7] [q0, q1, q2, q3] (by decide) hq rfl
  simp only [List.map_cons, List.map_nil, List.cons.injEq, and_true] at hp
  refine ((markTerm_w t k hk).renA p).asA ?_ ?_ ?_ ?_ <;> simp [renS, Ob.ren, TV.ren, renL, Cell.ren, hp]

end Go.VC.T
/- Data (View): how they are marked. -/
namespace Go.VC.T
open Go Go.VC Go.Proofs Go.VC.F
def fc17MView := (ai (ai (ai (ai (ai sz3 ag3) (ai zv3 un3)) (ai (ai sz25 ag25) (ai zv25 sb25))) (ai (ai (ai un25 el25) (ai ap25 sz46)) (ai (ai ag46 zv46) (ai fl46_0 (ai fl46_1 fl46_2))))) (ai (ai (ai (ai fl46_3 fl46_4) (ai fl46_5 pl46)) (ai (ai sz48 ag48) (ai zv48 fl48_0))) (ai (ai (ai fl48_1 fl48_2) (ai fl48_3 pl48)) (ai (ai okf53 okf54) (ai sz9 (ai sz43 sz44))))))
theorem markView_w (t : Vw) (k : Int) (hk : 0 ≤ k ∧ k + (cnL (t.cond.ty.labels.flatMap eS) : Int) + (cnL (t.cond.ty.args.flatMap eTy) : Int) + (cnL (t.cond.labels.flatMap eS) : Int) + (cnL (t.cond.args.flatMap eTm) : Int) + (cnL (t.cols.flatMap eS) : Int) ≤ 2^60) : FnS Tryz.prog 17 [(1, .row t.cond.ty.labels.length (t.cond.ty.labels.flatMap eS)), (3, .row t.cond.ty.args.length (t.cond.ty.args.flatMap eTy)), (5, .row t.cond.labels.length (t.cond.labels.flatMap eS)), (7, .row t.cond.args.length (t.cond.args.flatMap eTm)), (9, .row t.cols.length (t.cols.flatMap eS))] [.ag [.im (.sc (.string t.table)), .im (.sc (.int .i64 t.cond.kind)), .im (.sc (.string t.cond.name)), .im (.sc (.int .i64 t.cond.n)), .im (.sc (.int .i64 t.cond.ty.kind)), .os 1 t.cond.ty.labels.length, .os 3 t.cond.ty.args.length, .os 5 t.cond.labels.length, .os 7 t.cond.args.length, .os 9 t.cols.length, .im (.sc (.string t.key))], iT k] [(1, .row t.cond.ty.labels.length (mkL mT (k) (t.cond.ty.labels.flatMap eS))), (3, .row t.cond.ty.args.length (mkL mT (k + (cnL (t.cond.ty.labels.flatMap eS) : Int)) (t.cond.ty.args.flatMap eTy))), (5, .row t.cond.labels.length (mkL mT (k + (cnL (t.cond.ty.labels.flatMap eS) : Int) + (cnL (t.cond.ty.args.flatMap eTy) : Int)) (t.cond.labels.flatMap eS))), (7, .row t.cond.args.length (mkL mT (k + (cnL (t.cond.ty.labels.flatMap eS) : Int) + (cnL (t.cond.ty.args.flatMap eTy) : Int) + (cnL (t.cond.labels.flatMap eS) : Int)) (t.cond.args.flatMap eTm))), (9, .row t.cols.length (mkL mT (k + (cnL (t.cond.ty.labels.flatMap eS) : Int) + (cnL (t.cond.ty.args.flatMap eTy) : Int) + (cnL (t.cond.labels.flatMap eS) : Int) + (cnL (t.cond.args.flatMap eTm) : Int)) (t.cols.flatMap eS)))] (iT (k + (cnL (t.cond.ty.labels.flatMap eS) : Int) + (cnL (t.cond.ty.args.flatMap eTy) : Int) + (cnL (t.cond.labels.flatMap eS) : Int) + (cnL (t.cond.args.flatMap eTm) : Int) + (cnL (t.cols.flatMap eS) : Int))) := by
  refine FnS.go [0, 1, 2, 4] [] Tryz.func17 rfl (fun kt kz => ?_) (hodd := by refine oddS _ ?_; simp)
  have fcx := fc17MView
  simp only [Tryz.f17]
  refine Run (cast_succ) ?_; with_reducible repeat' (first | exact True.intro | refine Lf.mk ?_ ?_ | intro hb)
  refine CalO (cast_succ) (markTerm_q t.cond (k) ⟨by omega, by omega⟩ 1 3 5 7 (by decide)) ?_
  refine Run (cast_succ) ?_; with_reducible repeat' (first | exact True.intro | refine Lf.mk ?_ ?_ | intro hb)
  refine CalO (cast_succ) (markStringS_q t.cols (k + (cnL (t.cond.ty.labels.flatMap eS) : Int) + (cnL (t.cond.ty.args.flatMap eTy) : Int) + (cnL (t.cond.labels.flatMap eS) : Int) + (cnL (t.cond.args.flatMap eTm) : Int)) ⟨by omega, by omega⟩ 9) ?_
  refine Run (cast_succ) ?_; with_reducible repeat' (first | exact True.intro | refine Lf.mk ?_ ?_ | intro hb)

theorem markView_q (t : Vw) (k : Int) (hk : 0 ≤ k ∧ k + (cnL (t.cond.ty.labels.flatMap eS) : Int) + (cnL (t.cond.ty.args.flatMap eTy) : Int) + (cnL (t.cond.labels.flatMap eS) : Int) + (cnL (t.cond.args.flatMap eTm) : Int) + (cnL (t.cols.flatMap eS) : Int) ≤ 2^60) (q0 q1 q2 q3 q4 : Nat) (hq : [q0, q1, q2, q3, q4].Nodup) : FnS Tryz.prog 17 [(q0, .row t.cond.ty.labels.length (t.cond.ty.labels.flatMap eS)), (q1, .row t.cond.ty.args.length (t.cond.ty.args.flatMap eTy)), (q2, .row t.cond.labels.length (t.cond.labels.flatMap eS)), (q3, .row t.cond.args.length (t.cond.args.flatMap eTm)), (q4, .row t.cols.length (t.cols.flatMap eS))] [.ag [.im (.sc (.string t.table)), .im (.sc (.int .i64 t.cond.kind)), .im (.sc (.string t.cond.name)), .im (.sc (.int .i64 t.cond.n)), .im (.sc (.int .i64 t.cond.ty.kind)), .os q0 t.cond.ty.labels.length, .os q1 t.cond.ty.args.length, .os q2 t.cond.labels.length, .os q3 t.cond.args.length, .os q4 t.cols.length, .im (.sc (.string t.key))], iT k] [(q0, .row t.cond.ty.labels.length (mkL mT (k) (t.cond.ty.labels.flatMap eS))), (q1, .row t.cond.ty.args.length (mkL mT (k + (cnL (t.cond.ty.labels.flatMap eS) : Int)) (t.cond.ty.args.flatMap eTy))), (q2, .row t.cond.labels.length (mkL mT (k + (cnL (t.cond.ty.labels.flatMap eS) : Int) + (cnL (t.cond.ty.args.flatMap eTy) : Int)) (t.cond.labels.flatMap eS))), (q3, .row t.cond.args.length (mkL mT (k + (cnL (t.cond.ty.labels.flatMap eS) : Int) + (cnL (t.cond.ty.args.flatMap eTy) : Int) + (cnL (t.cond.labels.flatMap eS) : Int)) (t.cond.args.flatMap eTm))), (q4, .row t.cols.length (mkL mT (k + (cnL (t.cond.ty.labels.flatMap eS) : Int) + (cnL (t.cond.ty.args.flatMap eTy) : Int) + (cnL (t.cond.labels.flatMap eS) : Int) + (cnL (t.cond.args.flatMap eTm) : Int)) (t.cols.flatMap eS)))] (iT (k + (cnL (t.cond.ty.labels.flatMap eS) : Int) + (cnL (t.cond.ty.args.flatMap eTy) : Int) + (cnL (t.cond.labels.flatMap eS) : Int) + (cnL (t.cond.args.flatMap eTm) : Int) + (cnL (t.cols.flatMap eS) : Int))) := by
  obtain ⟨p, hp⟩ := pml [1, 3, 5, 7, 9] [q0, q1, q2, q3, q4] (by decide) hq rfl
  simp only [List.map_cons, List.map_nil, List.cons.injEq, and_true] at hp
  refine ((markView_w t k hk).renA p).asA ?_ ?_ ?_ ?_ <;> simp [renS, Ob.ren, TV.ren, renL, Cell.ren, hp]

end Go.VC.T
/- Data (TableDecl): how they are marked. -/
namespace Go.VC.T
open Go Go.VC Go.Proofs Go.VC.F
def fc52MTableDecl := (ai (ai (ai (ai (ai sz3 (ai ag3 zv3)) (ai un3 (ai sz4 ag4))) (ai (ai zv4 (ai un4 sz9)) (ai ag9 (ai zv9 un9)))) (ai (ai (ai sz25 (ai ag25 zv25)) (ai sb25 (ai un25 el25))) (ai (ai ap25 (ai sz37 ag37)) (ai zv37 (ai sb37 un37))))) (ai (ai (ai (ai el37 (ai ap37 sz41)) (ai ag41 (ai zv41 sb41))) (ai (ai un41 (ai el41 ap41)) (ai sz43 (ai ag43 zv43)))) (ai (ai (ai fl43_0 (ai fl43_1 fl43_2)) (ai pl43 (ai sz97 ag97))) (ai (ai zv97 (ai fl97_0 fl97_1)) (ai (ai pl97 okf54) (ai okf55 okf80))))))
theorem markTableDeclS_of (xs : List Decl) (k : Int) (hk : 0 ≤ k ∧ k + (cnL (xs.flatMap eDecl) : Int) ≤ 2^60) : FnS Tryz.prog 52 [(1, .row xs.length (xs.flatMap eDecl))] [.c (.os 1 xs.length), iT k] [(1, .row xs.length (mkL mT k (xs.flatMap eDecl)))] (iT (k + (cnL (xs.flatMap eDecl) : Int))) := by
  refine FnS.go [0, 1, 4, 5, 9] [] Tryz.func52 rfl (fun kt kz => ?_)
  have fcx := fc52MTableDecl
  simp only [Tryz.f52]
  have hx : xs.length ≤ 2^60 := by have := cnL_len (E := eDecl) (xs := xs); omega
  refine Run (cast_succ) ?_; with_reducible repeat' (first | exact True.intro | refine Lf.mk ?_ ?_ | intro hb)
  refine Trn (α := Nat) [1, 5, 6, 7, 8, 9, 10, 11, 12, 13, 14, 15, 16, 17, 18, 19, 20, 21, 22, 23, 24, 25, 26, 27, 28, 29, 30, 31, 32, 33, 34, 35, 36, 37, 38, 39, 40, 41, 42, 43] (fun i => [(5, iT i), (1, iT (k + (cnT eDecl xs i : Int)))]) (fun i => [(1, .row xs.length (mkA mT eDecl k xs i ++ (xs.drop i).flatMap eDecl))]) (fun i => i ≤ xs.length) (fun i => xs.length - i) (0) (Nat.zero_le _) ((ai (ai (mkA_zero mT (E := eDecl) (k := k) (xs := xs)) (cnT_zero (E := eDecl) (xs := xs))) (ai (List.drop_zero (l := xs)) (ai @Int.ofNat_zero @Int.add_zero)))) ?_; intro lx hI; obtain i := lx; (try simp only [List.nil_append, List.cons_append] at hI ⊢)
  by_cases hlt : lx < xs.length
  · have hA : (mkA mT eDecl k xs lx).length = lx * 4 := by have := mkA_len mT (E := eDecl) (k := k) (Nat.le_of_lt hlt); omega
    have hd := drop_flat (E := eDecl) hlt
    rw [eDecl_eta] at hd
    have hc := cnT_le (E := eDecl) (xs := xs) (i := lx + 1)
    have ecn : cnT eDecl xs (lx + 1) = cnT eDecl xs lx + (1 + 1 + cnL (xs[lx].row.labels.flatMap eS) + cnL (xs[lx].row.args.flatMap eTy)) := by rw [cnT_succ hlt]; (simp only [eDecl_eta, slI, cnL_i, cnL_s, cnL_l, cnL_n]) <;> omega
    have e : k + (cnT eDecl xs lx : Int) + 1 + 1 + (cnL (xs[lx].row.labels.flatMap eS) : Int) + (cnL (xs[lx].row.args.flatMap eTy) : Int) = k + (cnT eDecl xs (lx + 1) : Int) := by omega
    have ec : mkA mT eDecl k xs lx ++ (.sc (.string (mT (k + (cnT eDecl xs lx : Int)))) :: .sc (.int .i64 (k + (cnT eDecl xs lx : Int) + 1)) :: .sl xs[lx].row.labels.length (mkL mT (k + (cnT eDecl xs lx : Int) + 1 + 1) (xs[lx].row.labels.flatMap eS)) :: .sl xs[lx].row.args.length (mkL mT (k + (cnT eDecl xs lx : Int) + 1 + 1 + (cnL (xs[lx].row.labels.flatMap eS) : Int)) (xs[lx].row.args.flatMap eTy)) :: (xs.drop (lx + 1)).flatMap eDecl) = mkA mT eDecl k xs (lx + 1) ++ (xs.drop (lx + 1)).flatMap eDecl := by rw [mkA_succ mT hlt]; simp only [eDecl_eta, slI, mkL_i, mkL_s, mkL_l, mkL_n, List.append_assoc, List.cons_append, List.nil_append]
    refine Run ((ai (ai (ai @hd (ai @hlt @ivl)) (ai @iv0 (ai @ivs @ownCells_get))) (ai (ai (mid_set0 hA) (ai (mid_set 1 hA) (mid_set 2 hA))) (ai (mid_get 2 hA) (ai (mid_set 3 hA) (mid_get 3 hA)))))) ?_; with_reducible repeat' (first | exact True.intro | refine Lf.mk ?_ ?_ | intro hb)
    refine Cal ((ai (ai (ai @hd (ai @hlt @ivl)) (ai @iv0 (ai @ivs @ownCells_get))) (ai (ai (mid_set0 hA) (ai (mid_set 1 hA) (mid_set 2 hA))) (ai (mid_get 2 hA) (ai (mid_set 3 hA) (mid_get 3 hA)))))) (markText_ok (k + (cnT eDecl xs lx : Int)) (by omega)) ?_
    refine Run ((ai (ai (ai @hd (ai @hlt @ivl)) (ai @iv0 (ai @ivs @ownCells_get))) (ai (ai (mid_set0 hA) (ai (mid_set 1 hA) (mid_set 2 hA))) (ai (mid_get 2 hA) (ai (mid_set 3 hA) (mid_get 3 hA)))))) ?_; with_reducible repeat' (first | exact True.intro | refine Lf.mk ?_ ?_ | intro hb)
    refine CalN (⟨⟩ : Nsk (1) (1) ((lx * 4 + 2))) ((ai (ai (ai @hd (ai @hlt @ivl)) (ai @iv0 (ai @ivs @ownCells_get))) (ai (ai (mid_set0 hA) (ai (mid_set 1 hA) (mid_set 2 hA))) (ai (mid_get 2 hA) (ai (mid_set 3 hA) (mid_get 3 hA)))))) (markStringS_ok (xs[lx].row.labels) (k + (cnT eDecl xs lx : Int) + 1 + 1) ⟨by omega, by omega⟩) ?_
    refine Run ((ai (ai (ai @hd (ai @hlt @ivl)) (ai @iv0 (ai @ivs @ownCells_get))) (ai (ai (mid_set0 hA) (ai (mid_set 1 hA) (mid_set 2 hA))) (ai (mid_get 2 hA) (ai (mid_set 3 hA) (mid_get 3 hA)))))) ?_; with_reducible repeat' (first | exact True.intro | refine Lf.mk ?_ ?_ | intro hb)
    refine CalN (⟨⟩ : Nsk (1) (1) ((lx * 4 + 3))) ((ai (ai (ai @hd (ai @hlt @ivl)) (ai @iv0 (ai @ivs @ownCells_get))) (ai (ai (mid_set0 hA) (ai (mid_set 1 hA) (mid_set 2 hA))) (ai (mid_get 2 hA) (ai (mid_set 3 hA) (mid_get 3 hA)))))) (markTypeS_ok (xs[lx].row.args) (k + (cnT eDecl xs lx : Int) + 1 + 1 + (cnL (xs[lx].row.labels.flatMap eS) : Int)) ⟨by omega, by omega⟩) ?_
    refine Run ((ai (ai (ai @hd (ai @hlt @ivl)) (ai @iv0 (ai @ivs @ownCells_get))) (ai (ai (mid_set0 hA) (ai (mid_set 1 hA) (mid_set 2 hA))) (ai (mid_get 2 hA) (ai (mid_set 3 hA) (mid_get 3 hA)))))) ?_; with_reducible repeat' (first | exact True.intro | refine Lf.mk ?_ ?_ | intro hb)
    exact Nxt ((ai @e @ec)) (lx + 1) (by omega) (by first | omega | (simp; omega))
  · have hge : xs.length ≤ lx := by omega
    have e1 := cnT_all (E := eDecl) hge
    have e2 := mkA_all mT (E := eDecl) (k := k) hge
    have e3 := drop_all (E := eDecl) hge
    refine Run ((ai (ai @e1 @e2) (ai @e3 @hlt))) ?_; with_reducible repeat' (first | exact True.intro | refine Lf.mk ?_ ?_ | intro hb)

theorem markTableDeclS_ok (xs : List Decl) (k : Int) (hk : 0 ≤ k ∧ k + (cnL (xs.flatMap eDecl) : Int) ≤ 2^60) : FnS Tryz.prog 52 [(1, .row xs.length (xs.flatMap eDecl))] [.c (.os 1 xs.length), iT k] [(1, .row xs.length (mkL mT k (xs.flatMap eDecl)))] (iT (k + (cnL (xs.flatMap eDecl) : Int))) := markTableDeclS_of xs k hk
theorem markTableDeclS_q (xs : List Decl) (k : Int) (hk : 0 ≤ k ∧ k + (cnL (xs.flatMap eDecl) : Int) ≤ 2^60) (q : Nat) : FnS Tryz.prog 52 [(q, .row xs.length (xs.flatMap eDecl))] [.c (.os q xs.length), iT k] [(q, .row xs.length (mkL mT k (xs.flatMap eDecl)))] (iT (k + (cnL (xs.flatMap eDecl) : Int))) := by
  obtain ⟨p, hp⟩ := pm1 1 q
  refine ((markTableDeclS_ok xs k hk).renA p).asA ?_ ?_ ?_ ?_ <;> simp [renS, Ob.ren, TV.ren, Cell.ren, hp]


end Go.VC.T
/- Data (Schema): how they are marked. -/
namespace Go.VC.T
open Go Go.VC Go.Proofs Go.VC.F
def fc16MSchema := (ai (ai (ai (ai sz3 ag3) (ai zv3 un3)) (ai (ai sz37 ag37) (ai zv37 sb37))) (ai (ai (ai un37 el37) (ai ap37 sz39)) (ai (ai ag39 zv39) (ai fl39_0 (ai pl39 okf52)))))
theorem markSchema_w (t : List Decl) (k : Int) (hk : 0 ≤ k ∧ k + (cnL (t.flatMap eDecl) : Int) ≤ 2^60) : FnS Tryz.prog 16 [(1, .row t.length (t.flatMap eDecl))] [.ag [.os 1 t.length], iT k] [(1, .row t.length (mkL mT (k) (t.flatMap eDecl)))] (iT (k + (cnL (t.flatMap eDecl) : Int))) := by
  refine FnS.go [0, 1, 2, 4] [] Tryz.func16 rfl (fun kt kz => ?_)
  have fcx := fc16MSchema
  simp only [Tryz.f16]
  refine Run (cast_succ) ?_; with_reducible repeat' (first | exact True.intro | refine Lf.mk ?_ ?_ | intro hb)
  refine CalO (cast_succ) (markTableDeclS_q t (k) ⟨by omega, by omega⟩ 1) ?_
  refine Run (cast_succ) ?_; with_reducible repeat' (first | exact True.intro | refine Lf.mk ?_ ?_ | intro hb)

theorem markSchema_q (t : List Decl) (k : Int) (hk : 0 ≤ k ∧ k + (cnL (t.flatMap eDecl) : Int) ≤ 2^60) (q0 : Nat) (hq : [q0].Nodup) : FnS Tryz.prog 16 [(q0, .row t.length (t.flatMap eDecl))] [.ag [.os q0 t.length], iT k] [(q0, .row t.length (mkL mT (k) (t.flatMap eDecl)))] (iT (k + (cnL (t.flatMap eDecl) : Int))) := by
  obtain ⟨p, hp⟩ := pml [1] [q0] (by decide) hq rfl
  simp only [List.map_cons, List.map_nil, List.cons.injEq, and_true] at hp
  refine ((markSchema_w t k hk).renA p).asA ?_ ?_ ?_ ?_ <;> simp [renS, Ob.ren, TV.ren, renL, Cell.ren, hp]
def hSchema (k : Int) (t : List Decl) : List IV := [.sl t.length (mkL mT (k) (t.flatMap eDecl))]


end Go.VC.T
/- The law of ViewType: it says yes. -/
namespace Go.VC
open Go
theorem cn_flat {α : Type} {E : α → List IV} {z : α → Nat} {c : Nat} : ∀ {l : List α}, (∀ a ∈ l, cnL (E a) ≤ c + c * z a) → cnL (l.flatMap E) ≤ c * zL z l
  | [], _ => by simp [cnL]
  | a :: r, h => by
    have h1 := h a List.mem_cons_self
    have h2 := cn_flat (fun b hb => h b (List.mem_cons_of_mem _ hb)) (l := r) (E := E) (z := z) (c := c)
    rw [List.flatMap_cons, cnL_append]
    unfold zL at *
    simp only [List.length_cons, List.map_cons, List.sum_cons, Nat.mul_add, Nat.mul_one] at *
    omega
theorem cn_S {l : List ByteArray} : cnL (l.flatMap eS) ≤ 1 * zSL l := cn_flat fun a _ => by
  show cnL [.sc (.string a)] ≤ _
  rw [cnL_s, cnL_n]; omega
theorem cn_Ty : ∀ v : Ty, cnL (eTy v) ≤ 1 + 1 * zTy v
  | .mk k l ws => by
    have h1 := cn_S (l := l)
    have h2 := cn_flat (E := eTy) (z := zTy) (c := 1) (l := ws) fun a ha => cn_Ty a
    rw [eTy_eta, zTy_eta]
    show cnL [.sc (.int .i64 k), .sl l.length (l.flatMap eS), .sl ws.length (ws.flatMap eTy)] ≤ 1 + 1 * (zSL l + zL zTy ws)
    rw [cnL_i, cnL_l, cnL_l, cnL_n]; omega
theorem cn_Tm : ∀ v : Tm, cnL (eTm v) ≤ 4 + 4 * zTm v
  | .mk k s n t l ws => by
    have h1 := cn_S (l := l)
    have h2 := cn_flat (E := eTm) (z := zTm) (c := 4) (l := ws) fun a ha => cn_Tm a
    have h3 := cn_Ty t
    have h4 := zTy_eta t
    rw [eTy_eta t] at h3
    rw [eTm_eta, zTm_eta]
    show cnL ([.sc (.int .i64 k), .sc (.string s), .sc (.int .i64 n), .sc (.int .i64 t.kind), .sl t.labels.length (t.labels.flatMap eS), .sl t.args.length (t.args.flatMap eTy), .sl l.length (l.flatMap eS), .sl ws.length (ws.flatMap eTm)]) ≤ 4 + 4 * (zS s + zTy t + zSL l + zL zTm ws)
    simp only [slI, cnL_i, cnL_s, cnL_l, cnL_n] at *
    omega
theorem cn_Sch {s : List Decl} : cnL (s.flatMap eDecl) ≤ 2 * zSch s := by
  rw [zSch_eta]
  refine cn_flat fun d _ => ?_
  have h1 := cn_Ty d.row
  have : zDecl d = zS d.name + zTy d.row := zDecl_eta d
  show cnL (.sc (.string d.name) :: eTy d.row) ≤ _
  rw [cnL_s]; omega
theorem cn_Vw (v : Vw) : cnL (v.cond.ty.labels.flatMap eS) + cnL (v.cond.ty.args.flatMap eTy) + cnL (v.cond.labels.flatMap eS) + cnL (v.cond.args.flatMap eTm) + cnL (v.cols.flatMap eS) ≤ 4 * zVw v := by
  have h1 := cn_S (l := v.cond.ty.labels)
  have h2 := cn_flat (E := eTy) (z := zTy) (c := 1) (l := v.cond.ty.args) fun a _ => cn_Ty a
  have h3 := cn_S (l := v.cond.labels)
  have h4 := cn_flat (E := eTm) (z := zTm) (c := 4) (l := v.cond.args) fun a _ => cn_Tm a
  have h5 := cn_S (l := v.cols)
  rw [zVw_eta, zTm_eta, zTy_eta]; omega
theorem cn_TyA (t : Ty) : cnL (t.labels.flatMap eS) + cnL (t.args.flatMap eTy) ≤ zTy t := by
  have h1 := cn_S (l := t.labels)
  have h2 := cn_flat (E := eTy) (z := zTy) (c := 1) (l := t.args) fun a _ => cn_Ty a
  rw [zTy_eta]; omega
theorem zL_bnd {α : Type} {z : α → Nat} {c : Nat} : ∀ {l : List α}, (∀ a ∈ l, z a ≤ c) → zL z l ≤ l.length * (c + 1)
  | [], _ => by simp [zL]
  | a :: r, h => by
    have h1 := h a List.mem_cons_self
    have h2 := zL_bnd (fun b hb => h b (List.mem_cons_of_mem _ hb)) (l := r)
    unfold zL at *
    simp only [List.length_cons, List.map_cons, List.sum_cons, Nat.succ_mul] at *
    omega
theorem vTy_z {row : Ty} {cols : List ByteArray} (h : TyOk row) : zTy (tBag (vTy row cols)) ≤ 1 + (zSL cols + cols.length * 601) := by
  have h1 : zL zTy (vTs row cols) ≤ (vTs row cols).length * 601 := zL_bnd fun t ht => by
    obtain ⟨c, hc, rfl⟩ := List.mem_map.1 ht
    cases hf : fieldT row c with
    | none => show zTy ty0 ≤ 600; decide
    | some t =>
      by_cases g : TyOk row ∧ row.kind = 3 ∧ 0 ≤ idxI (fun x => decide (x = c)) row.labels
      · obtain ⟨j, _, hj, h2⟩ := fieldT_at g
        rw [h2] at hf
        obtain rfl := Option.some.inj hf
        have := zTy_arg (List.getElem_mem hj)
        have := h.z
        show zTy row.args[j] ≤ 600
        omega
      · rw [fieldT_no g] at hf; cases hf
  rw [vTs_len] at h1
  rw [zTy_eta]
  show zSL [] + zL zTy [vTy row cols] ≤ _
  have e : zL zTy [vTy row cols] = 1 + zTy (vTy row cols) := by simp [zL]
  rw [e, zTy_eta]
  show 0 + (1 + (zSL cols + zL zTy (vTs row cols))) ≤ _
  omega
end Go.VC
namespace Go.VC.T
open Go Go.VC Go.Proofs Go.VC.F
def fc4A113 := (ai (ai (ai (ai (ai sz3 (ai ag3 zv3)) (ai (ai un3 sz4) (ai ag4 zv4))) (ai (ai (ai un4 sz24) (ai ag24 zv24)) (ai (ai fl24_0 pl24) (ai sz33 ag33)))) (ai (ai (ai zv33 (ai fl33_0 fl33_1)) (ai (ai fl33_2 fl33_3) (ai pl33 sz39))) (ai (ai (ai ag39 zv39) (ai fl39_0 pl39)) (ai (ai sz43 ag43) (ai zv43 fl43_0))))) (ai (ai (ai (ai fl43_1 (ai fl43_2 pl43)) (ai (ai sz48 ag48) (ai zv48 fl48_0))) (ai (ai (ai fl48_1 fl48_2) (ai fl48_3 pl48)) (ai (ai okf5 okf6) (ai okf8 okf9)))) (ai (ai (ai (ai okf11 okf12) (ai okf13 okf14)) (ai (ai okf15 okf16) (ai okf17 okf18))) (ai (ai (ai okf19 sz22) (ai sz9 sz31)) (ai (ai sz25 sz37) (ai sz41 sz46))))))
theorem viewType_gen (a : List Decl) (b : Vw) (ha : okSch (2^48) a) (hb' : okVw (2^48) b) (T : Ty) (bb : Bool) (HT : zSch a + zVw b ≤ 2^20 → okTy (2^20) T ∧ zTy T ≤ 2^50) (HS : okSch (2^20) a → okVw (2^20) b → zSch a + zVw b ≤ 2^20 → FnP Tryz.prog 13 [agT (eSch a), agT (eVw b)] (.tp [agT (eTy T), bT bb])) (HI : okSch (2^20) a → okVw (2^20) b → zSch a + zVw b ≤ 2^20 → FnS Tryz.prog 14 [] [agT (eSch a), agT (eVw b)] [(6000, .row T.labels.length (T.labels.flatMap eS)), (4000, .row T.args.length (T.args.flatMap eTy))] (.tp [.ag [.im (.sc (.int .i64 T.kind)), .os 6000 T.labels.length, .os 4000 T.args.length], bT bb])) : FnS Tryz.prog 4 [] [agT (eSch a), agT (eVw b)] [] (bT true) := by
  refine FnS.go [0, 1, 2, 3, 4, 5, 6, 7, 8, 9, 10, 11, 12, 13, 14, 15, 16, 21, 26, 53, 58, 63, 82, 90, 93, 110, 115, 118] [] Tryz.func4 rfl (fun kt kz => ?_)
  have fcx := fc4A113
  simp only [Tryz.f4]
  refine Run ((ai @eSch_eta @eVw_eta)) ?_; with_reducible repeat' (first | exact True.intro | refine Lf.mk ?_ ?_ | intro hb)
  refine Cal (@eSch_eta) (szSchema_ok a ha 1048576 ⟨by omega, by omega⟩) ?_
  refine Run ((ai @eSch_eta @eVw_eta)) ?_; with_reducible repeat' (first | exact True.intro | refine Lf.mk ?_ ?_ | intro hb)
  have h1 := szR_spec (zSch a) 1048576
  have h2 := szR_spec (zVw b) (szR (zSch a) 1048576)
  have ha' : okSch (2^20) a := okSch_down ha (by omega)
  refine Cal (@eVw_eta) (szView_ok b hb' (szR (zSch a) 1048576) ⟨by omega, by omega⟩) ?_
  refine Run ((ai @eSch_eta @eVw_eta)) ?_; with_reducible repeat' (first | exact True.intro | refine Lf.mk ?_ ?_ | intro hb)
  have hb2 : okVw (2^20) b := okVw_down hb' (by omega)
  have hsum : zSch a + zVw b ≤ 2^20 := by omega
  have HS' := HS ha' hb2 hsum
  have HI' := HI ha' hb2 hsum
  obtain ⟨hTo, hTz⟩ := HT hsum
  have hta := toSchema_ok a ha'
  have htb := toView_ok b hb2
  have hca := cn_Sch (s := a)
  have hcb := cn_Vw b
  have hcT := cn_TyA T
  have HIt : FnP Tryz.prog 14 [agT (eSch a), agT (eVw b)] (.tp [agT (eTy T), bT bb]) := HI'.treeP (by simp [argTs, argT, toIVL, toIV, toIV0, get_cons, Ob.len?, Ob.cells, agT, eTy_eta, slI])
  refine Sm.drawYK [0, 1, 2, 3, 4, 5, 6, 7] 8 6 40 [(9, [], [7]), (10, [9], [])] mixed (by decide +kernel) (by simp only [get_cons, get_nil, ↓reduceIte, Nat.reduceMul, Nat.reduceEqDiff, Option.isSome_none, Option.isSome_some]) (by (simp only [List.getElem?_toArray, List.getElem?_cons_succ, List.getElem?_cons_zero]); exact rfl) (by (simp only [List.filterMap_cons, List.filterMap_nil, List.getElem?_toArray, List.getElem?_cons_succ, List.getElem?_cons_zero]); exact rfl) (by (simp only [List.filterMap_cons, List.filterMap_nil, List.getElem?_toArray, List.getElem?_cons_succ, List.getElem?_cons_zero]); exact rfl) rfl ?_; refine RunX ((ai @eSch_eta @eVw_eta)) ?_; with_reducible repeat' (first | exact True.intro | refine Lf.mk ?_ ?_ | intro hb)
  refine CalI (@eSch_eta) (hta) ?_
  refine RunX ((ai @eSch_eta @eVw_eta)) ?_; with_reducible repeat' (first | exact True.intro | refine Lf.mk ?_ ?_ | intro hb)
  refine CalI (@eVw_eta) (htb) ?_
  refine RunX ((ai @eSch_eta @eVw_eta)) ?_; with_reducible repeat' (first | exact True.intro | refine Lf.mk ?_ ?_ | intro hb)
  refine CalI ((ai @eSch_eta (ai @eVw_eta @eTy_eta))) (HS') ?_
  refine RunX ((ai @eSch_eta (ai @eVw_eta @eTy_eta))) ?_; with_reducible repeat' (first | exact True.intro | refine Lf.mk ?_ ?_ | intro hb)
  refine ⟨rfl, rfl, ?_⟩
  refine RunX ((ai @eSch_eta (ai @eVw_eta @eTy_eta))) ?_; with_reducible repeat' (first | exact True.intro | refine Lf.mk ?_ ?_ | intro hb)
  refine Cal (@eSch_eta) (toSchema_o a ha' 2000 (by simp)) ?_
  refine RunX ((ai @eSch_eta (ai @eVw_eta @eTy_eta))) ?_; with_reducible repeat' (first | exact True.intro | refine Lf.mk ?_ ?_ | intro hb)
  refine Cal (@eVw_eta) (toView_o b hb2 2010 2012 2014 2016 2018 (by decide)) ?_
  refine RunX ((ai @eSch_eta (ai @eVw_eta @eTy_eta))) ?_; with_reducible repeat' (first | exact True.intro | refine Lf.mk ?_ ?_ | intro hb)
  refine Cal ((ai @eSch_eta (ai @eVw_eta @eTy_eta))) (HI') ?_
  refine RunX ((ai @eSch_eta (ai @eVw_eta @eTy_eta))) ?_; with_reducible repeat' (first | exact True.intro | refine Lf.mk ?_ ?_ | intro hb)
  refine ⟨rfl, rfl, ?_⟩
  refine RunX ((ai @eSch_eta (ai @eVw_eta @eTy_eta))) ?_; with_reducible repeat' (first | exact True.intro | refine Lf.mk ?_ ?_ | intro hb)
  refine Cal (@eTy_eta) (eqType_ok T hTo) ?_
  refine RunX ((ai @eSch_eta (ai @eVw_eta @eTy_eta))) ?_; with_reducible repeat' (first | exact True.intro | refine Lf.mk ?_ ?_ | intro hb)
  refine CalI (@eSch_eta) (hta) ?_
  refine RunX ((ai @eSch_eta (ai @eVw_eta @eTy_eta))) ?_; with_reducible repeat' (first | exact True.intro | refine Lf.mk ?_ ?_ | intro hb)
  refine Cal (@eSch_eta) (eqSchema_ok a ha') ?_
  refine RunX ((ai @eSch_eta (ai @eVw_eta @eTy_eta))) ?_; with_reducible repeat' (first | exact True.intro | refine Lf.mk ?_ ?_ | intro hb)
  refine CalI (@eVw_eta) (htb) ?_
  refine RunX ((ai @eSch_eta (ai @eVw_eta @eTy_eta))) ?_; with_reducible repeat' (first | exact True.intro | refine Lf.mk ?_ ?_ | intro hb)
  refine Cal (@eVw_eta) (eqView_ok b hb2) ?_
  refine RunX ((ai @eSch_eta (ai @eVw_eta @eTy_eta))) ?_; with_reducible repeat' (first | exact True.intro | refine Lf.mk ?_ ?_ | intro hb)
  refine CalO (cast_succ) (markSchema_q a 1 ⟨by omega, by omega⟩ 2000 (by simp)) ?_
  refine RunX ((ai @eSch_eta (ai @eVw_eta @eTy_eta))) ?_; with_reducible repeat' (first | exact True.intro | refine Lf.mk ?_ ?_ | intro hb)
  refine CalO (cast_succ) (markView_q b (1 + (cnL (a.flatMap eDecl) : Int)) ⟨by omega, by omega⟩ 2010 2012 2014 2016 2018 (by decide)) ?_
  have hn1 : ((1 + (cnL (a.flatMap eDecl) : Int)) + (cnL (b.cond.ty.labels.flatMap eS) : Int) + (cnL (b.cond.ty.args.flatMap eTy) : Int) + (cnL (b.cond.labels.flatMap eS) : Int) + (cnL (b.cond.args.flatMap eTm) : Int) + (cnL (b.cols.flatMap eS) : Int) < 0) = False := eq_false (by omega)
  refine RunX ((ai (ai @eSch_eta @eVw_eta) (ai @eTy_eta @hn1))) ?_; with_reducible repeat' (first | exact True.intro | refine Lf.mk ?_ ?_ | intro hb)
  refine Cal (@eTy_eta) (eqType_ok T hTo) ?_
  refine RunX ((ai @eSch_eta (ai @eVw_eta @eTy_eta))) ?_; with_reducible repeat' (first | exact True.intro | refine Lf.mk ?_ ?_ | intro hb)
  refine CalO (cast_succ) (markType_q T 1 ⟨by omega, by omega⟩ 6000 4000 (by decide)) ?_
  refine RunX ((ai @eSch_eta (ai @eVw_eta @eTy_eta))) ?_; with_reducible repeat' (first | exact True.intro | refine Lf.mk ?_ ?_ | intro hb)
  refine Cal (@hType.eq_1) (heldType_ok T 1 ⟨by omega, by omega⟩) ?_
  have hn2 : ((1 + (cnL (T.labels.flatMap eS) : Int)) + (cnL (T.args.flatMap eTy) : Int) < 0) = False := eq_false (by omega)
  refine RunX ((ai (ai @eSch_eta @eVw_eta) (ai @eTy_eta @hn2))) ?_; with_reducible repeat' (first | exact True.intro | refine Lf.mk ?_ ?_ | intro hb)
  refine Sm.drawYK [0, 1, 2, 3, 4, 5, 6, 7] 8 15 40 [(9, [], [7]), (10, [9], [])] mixed (by decide +kernel) (by simp only [get_cons, get_nil, ↓reduceIte, Nat.reduceMul, Nat.reduceEqDiff, Option.isSome_none, Option.isSome_some]) (by (simp only [List.getElem?_toArray, List.getElem?_cons_succ, List.getElem?_cons_zero]); exact rfl) (by (simp only [List.filterMap_cons, List.filterMap_nil, List.getElem?_toArray, List.getElem?_cons_succ, List.getElem?_cons_zero]); exact rfl) (by (simp only [List.filterMap_cons, List.filterMap_nil, List.getElem?_toArray, List.getElem?_cons_succ, List.getElem?_cons_zero]); exact rfl) rfl ?_; refine RunX ((ai @eSch_eta @eVw_eta)) ?_; with_reducible repeat' (first | exact True.intro | refine Lf.mk ?_ ?_ | intro hb)
  refine CalI (@eSch_eta) (hta) ?_
  refine RunX ((ai @eSch_eta @eVw_eta)) ?_; with_reducible repeat' (first | exact True.intro | refine Lf.mk ?_ ?_ | intro hb)
  refine CalI (@eVw_eta) (htb) ?_
  refine RunX ((ai @eSch_eta @eVw_eta)) ?_; with_reducible repeat' (first | exact True.intro | refine Lf.mk ?_ ?_ | intro hb)
  refine CalI ((ai @eSch_eta (ai @eVw_eta @eTy_eta))) (HIt) ?_
  refine RunX ((ai @eSch_eta (ai @eVw_eta @eTy_eta))) ?_; with_reducible repeat' (first | exact True.intro | refine Lf.mk ?_ ?_ | intro hb)
  refine ⟨rfl, rfl, ?_⟩
  refine RunX ((ai @eSch_eta (ai @eVw_eta @eTy_eta))) ?_; with_reducible repeat' (first | exact True.intro | refine Lf.mk ?_ ?_ | intro hb)
  refine Cal (@eTy_eta) (eqType_ok T hTo) ?_
  refine RunX ((ai @eSch_eta (ai @eVw_eta @eTy_eta))) ?_; with_reducible repeat' (first | exact True.intro | refine Lf.mk ?_ ?_ | intro hb)
  refine Cal (@hType.eq_1) (heldType_ok T 1 ⟨by omega, by omega⟩) ?_
  refine RunX ((ai (ai @eSch_eta @eVw_eta) (ai @eTy_eta @hn2))) ?_; with_reducible repeat' (first | exact True.intro | refine Lf.mk ?_ ?_ | intro hb)

theorem viewType_law (a : List Decl) (b : Vw) (ha : okSch (2^48) a) (hb' : okVw (2^48) b) : FnP Tryz.prog 4 [agT (eSch a), agT (eVw b)] (bT true) := by
  by_cases hV : ViewOk a b
  · obtain ⟨hS, row, hr, hI⟩ := hV
    have hR := row_ok hS hr
    have hT : zSch a + zVw b ≤ 2^20 → okVw (2^20) b := fun h => okVw_down hb' (by omega)
    refine viewType_gen a b ha hb' (tBag (vTy row b.cols)) true (fun h => ⟨tBag_ok (vTy_ok hR.1 (okVw_iff.1 (hT h)).2.2.1), ?_⟩) (fun h1 h2 h3 => specVT_b a h1 (by omega) b h2 (by omega) row hr hS ⟨hS, row, hr, hI⟩) fun h1 h2 h3 => ?_
    · have h1 := vTy_z (cols := b.cols) hR.1
      have h2 := zVw_eta b
      have h3 : b.cols.length ≤ zSL b.cols := zL_len
      omega
    · have := (implVT_b a h1 (by omega) b h2 (by omega) row hr hS ⟨hS, row, hr, hI⟩).rows.nlT 1 6000 rfl rfl rfl rfl rfl rfl
      rw [show (tBag (vTy row b.cols)).args.flatMap eTy = eTy (vTy row b.cols) from flat_one _]
      exact this
  · refine viewType_gen a b ha hb' ty0 false (fun h => ⟨ok_ty0, by decide⟩) (fun h1 h2 h3 => (specVT_a a h1 (by omega) b h2 (by omega) hV).treeP rfl) fun h1 h2 h3 => ?_
    exact ((implVT_a a h1 (by omega) b h2 (by omega) hV).nlT 2 4000 rfl rfl rfl rfl rfl rfl).nlT 1 6000 rfl rfl rfl rfl rfl rfl
end Go.VC.T
