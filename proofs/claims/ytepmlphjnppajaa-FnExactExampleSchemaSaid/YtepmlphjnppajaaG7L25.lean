/- Data (TableData): how they are measured, copied and compared. -/
import Derived.Test.YtepmlphjnppajaaG6L25
import Derived.Test.YtepmlphjnppajaaGW4
import Derived.Test.YtepmlphjnppajaaG5L25
namespace Go.VC.T
open Go Go.VC Go.Proofs Go.VC.F
set_option linter.unusedSimpArgs false
set_option linter.unusedVariables false
set_option linter.defProp false
set_option maxRecDepth 100000
set_option maxHeartbeats 2000000
def fc113STableData := (And.intro (And.intro (And.intro (And.intro sz3 (And.intro ag3 zv3)) (And.intro un3 (And.intro sz4 ag4))) (And.intro (And.intro zv4 (And.intro un4 sz9)) (And.intro (And.intro ag9 zv9) (And.intro un9 sz165)))) (And.intro (And.intro (And.intro ag165 (And.intro zv165 sb165)) (And.intro un165 (And.intro el165 ap165))) (And.intro (And.intro sz167 (And.intro ag167 zv167)) (And.intro (And.intro fl167_0 fl167_1) (And.intro pl167 okf163)))))
theorem szTableData_ok (t : TData) (h : okTData (2^48) t) (left : Int) (hl : 0 ≤ left ∧ left ≤ 2^20) : FnS Try.prog 113 [] [agT (eTData t), iT left] [] (iT (szR (zTData t) left)) := by
  refine FnS.go [0, 1, 2, 4, 11, 17] [] Try.func113 rfl (fun kt kz => ?_)
  have fcx := fc113STableData
  simp only [Try.f113]
  have ho := okTData_iff.1 h
  have hs0 : t.name.size = zS t.name := rfl
  have hw0 : zS t.name ≤ 2^48 := ho.1
  refine Run ((And.intro @eTData_eta (And.intro @hs0 @szR_add))) ?_; repeat' (first | (with_reducible exact True.intro) | (with_reducible refine Lf.mk ?_ ?_) | (with_reducible intro hb))
  · congr 4; have s2 := szR_spec (zTData t) left; rw [zTData_eta] at s2 ⊢; omega
  · skip
    have e : left - (zS t.name : Int) = szR (zS t.name) left := by have s3 := szR_spec (zS t.name) left; omega
    rw [e] at hb ⊢
    refine Cal ((And.intro @eTData_eta (And.intro @hs0 @szR_add))) (szValueS_ok _ ho.2 _ ⟨(by assumption), by have := szR_le (n := zS t.name) hl.1; omega⟩) ?_
    have hz := szR_le (n := zS t.name + zL zVal t.rows) hl.1
    refine Run ((And.intro @eTData_eta (And.intro @hs0 @szR_add))) ?_; repeat' (first | (with_reducible exact True.intro) | (with_reducible refine Lf.mk ?_ ?_) | (with_reducible intro hb))
    · congr 4; have s1 := szR_spec (zS t.name + zL zVal t.rows) left; have s2 := szR_spec (zTData t) left; rw [zTData_eta] at s2 ⊢; omega
    · skip
      rw [zTData_eta]
def fc58STableData := (And.intro (And.intro (And.intro (And.intro sz3 (And.intro ag3 zv3)) (And.intro un3 (And.intro sz4 ag4))) (And.intro (And.intro zv4 (And.intro un4 sz27)) (And.intro ag27 (And.intro zv27 sb27)))) (And.intro (And.intro (And.intro un27 (And.intro el27 ap27)) (And.intro sz167 (And.intro ag167 zv167))) (And.intro (And.intro fl167_0 (And.intro fl167_1 pl167)) (And.intro okf113 (And.intro sz9 sz165)))))
theorem szTableDataS_of (xs : List TData) (hx : okLs (2^48) okTData xs) (H : ∀ t ∈ xs, ∀ left : Int, 0 ≤ left ∧ left ≤ 2^20 → FnP Try.prog 113 [agT (eTData t), iT left] (iT (szR (zTData t) left))) (left : Int) (hl : 0 ≤ left ∧ left ≤ 2^20) : FnS Try.prog 58 [] [slT eTData xs, iT left] [] (iT (szR (zL zTData xs) left)) := by
  refine FnS.go [0, 1, 4, 5, 11, 15, 25] [] Try.func58 rfl (fun kt kz => ?_)
  have fcx := fc58STableData
  simp only [Try.f58]
  have hx1 := hx.1
  refine Run (cast_succ) ?_; repeat' (first | (with_reducible exact True.intro) | (with_reducible refine Lf.mk ?_ ?_) | (with_reducible intro hb))
  · simp only [szR_nil hb zL_len]
  · rw [szR_sub hb]
    have hb2 := szR_sub hb ▸ hb
    refine Trn (α := Nat) [1, 4, 5, 12, 13, 14, 15, 16, 17, 18, 19, 20, 21, 22, 23, 24, 25] (fun i => [(5, iT i), (1, iT (szR (zT zTData xs i) left))]) (fun i => []) (fun i => i ≤ xs.length ∧ 0 ≤ szR (zT zTData xs i) left) (fun i => xs.length - i) (0) (⟨Nat.zero_le _, by rw [zT_zero]; exact hb2⟩) ((zT_zero (z := zTData) (l := xs))) ?_; intro lx hI; obtain i := lx; (try simp only [List.nil_append, List.cons_append] at hI ⊢)
    have hz := szR_le (n := zT zTData xs lx) hl.1
    by_cases hlt : lx < xs.length
    · have e : szR (zTData xs[lx]) (szR (zT zTData xs lx) left) = szR (zT zTData xs (lx + 1)) left := by rw [zT_succ hlt, ← szR_add]
      refine Run (@eTData_eta) ?_; repeat' (first | (with_reducible exact True.intro) | (with_reducible refine Lf.mk ?_ ?_) | (with_reducible intro hb))
      · refine Cal (@eTData_eta) (H _ (List.getElem_mem hlt) _ ⟨hI.2, by omega⟩) ?_
        refine Run (cast_succ) ?_; repeat' (first | (with_reducible exact True.intro) | (with_reducible refine Lf.mk ?_ ?_) | (with_reducible intro hb))
        · rw [e] at hb
          rw [szR_neg hb zT_le]
        · rw [e] at hb
          exact Nxt (@e) (lx + 1) (⟨by omega, hb⟩) (by first | omega | (simp; omega))
      · omega
    · refine Run (cast_succ) ?_; repeat' (first | (with_reducible exact True.intro) | (with_reducible refine Lf.mk ?_ ?_) | (with_reducible intro hb))
      · omega
      · rw [zT_all (by omega)]

theorem szTableDataS_ok (xs : List TData) (h : okLs (2^48) okTData xs) (left : Int) (hl : 0 ≤ left ∧ left ≤ 2^20) : FnP Try.prog 58 [slT eTData xs, iT left] (iT (szR (zL zTData xs) left)) := szTableDataS_of xs h (fun t ht left hl => szTableData_ok t (h.2 t ht) left hl) left hl
def fc116STableData := (And.intro (And.intro (And.intro (And.intro sz9 (And.intro ag9 zv9)) (And.intro (And.intro un9 sz103) (And.intro ag103 zv103))) (And.intro (And.intro (And.intro sb103 un103) (And.intro el103 ap103)) (And.intro (And.intro sz156 ag156) (And.intro zv156 fl156_0)))) (And.intro (And.intro (And.intro (And.intro fl156_1 pl156) (And.intro sz165 ag165)) (And.intro (And.intro zv165 sb165) (And.intro un165 el165))) (And.intro (And.intro (And.intro ap165 sz167) (And.intro ag167 zv167)) (And.intro (And.intro fl167_0 fl167_1) (And.intro pl167 okf165)))))
theorem toTableData_w (t : TData) (h : okTData (2^20) t) : FnS Try.prog 116 [] [agT (eTData t)] [(1000, .row t.rows.length (t.rows.flatMap eVal))] (.ag [.im (.sc (.string t.name)), .os 1000 t.rows.length]) := by
  refine FnS.go [0, 1, 2, 3] [] Try.func116 rfl (fun kt kz => ?_)
  have fcx := fc116STableData
  simp only [Try.f116]
  have ho := okTData_iff.1 h
  refine Run (@eTData_eta) ?_; repeat' (first | (with_reducible exact True.intro) | (with_reducible refine Lf.mk ?_ ?_) | (with_reducible intro hb))
  refine CalI (@eTData_eta) (toValueS_o _ ho.2 1000) ?_
  refine Run (@eTData_eta) ?_; repeat' (first | (with_reducible exact True.intro) | (with_reducible refine Lf.mk ?_ ?_) | (with_reducible intro hb))

theorem toTableData_o (t : TData) (h : okTData (2^20) t) : ∀ q0 : Nat, [q0].Nodup → FnS Try.prog 116 [] [agT (eTData t)] [(q0, .row t.rows.length (t.rows.flatMap eVal))] (.ag [.im (.sc (.string t.name)), .os q0 t.rows.length]) := by
  intro q0 hq
  obtain ⟨p, hp⟩ := pml [1000] [q0] (by decide) hq rfl
  simp only [List.map_cons, List.map_nil, List.cons.injEq, and_true] at hp
  refine ((toTableData_w t h).rows.pm p).as ?_ ?_ <;> simp [rowS, rowO, renS, Ob.ren, TV.ren, renL, Cell.ren, hp]
def fc61STableData := (And.intro (And.intro (And.intro (And.intro (And.intro sz3 ag3) (And.intro zv3 un3)) (And.intro (And.intro sz4 ag4) (And.intro zv4 (And.intro un4 sz27)))) (And.intro (And.intro (And.intro ag27 zv27) (And.intro sb27 (And.intro un27 el27))) (And.intro (And.intro ap27 sz35) (And.intro ag35 (And.intro zv35 sb35))))) (And.intro (And.intro (And.intro (And.intro un35 el35) (And.intro ap35 sz156)) (And.intro (And.intro ag156 zv156) (And.intro fl156_0 (And.intro fl156_1 pl156)))) (And.intro (And.intro (And.intro sz167 ag167) (And.intro zv167 (And.intro fl167_0 fl167_1))) (And.intro (And.intro pl167 okf116) (And.intro sz9 (And.intro sz103 sz165))))))
theorem toTableDataS_w (xs : List TData) (hx : okLs (2^20) okTData xs) (H : ∀ t ∈ xs, ∀ q0 : Nat, [q0].Nodup → FnS Try.prog 116 [] [agT (eTData t)] [(q0, .row t.rows.length (t.rows.flatMap eVal))] (.ag [.im (.sc (.string t.name)), .os q0 t.rows.length])) : FnS Try.prog 61 [] [slT eTData xs] [(14, .vec 156 2 xs.length (xs.flatMap eTData) true)] (.c (.os 14 xs.length)) := by
  refine FnS.go [0, 2, 3, 4, 11] [] Try.func61 rfl (fun kt kz => ?_)
  have fcx := fc61STableData
  simp only [Try.f61]
  have hx1 := hx.1
  refine Run (cast_succ) ?_; repeat' (first | (with_reducible exact True.intro) | (with_reducible refine Lf.mk ?_ ?_) | (with_reducible intro hb))
  refine Trn (α := Nat) [4, 8, 9, 10, 11, 12, 13, 14, 15, 16, 17, 18, 19, 20, 21] (fun i => [(4, iT i), (3, .c (.os 14 xs.length))]) (fun i => [(14, .vec 156 2 xs.length (filled eTData [.sc (.string ⟨#[]⟩), .sl 0 []] xs i) true)]) (fun i => i ≤ xs.length) (fun i => xs.length - i) (0) (Nat.zero_le _) (cast_succ) ?_; intro lx hI; obtain i := lx; (try simp only [List.nil_append, List.cons_append] at hI ⊢)
  refine Run (@eTData_eta) ?_; repeat' (first | (with_reducible exact True.intro) | (with_reducible refine Lf.mk ?_ ?_) | (with_reducible intro hb))
  · refine CalI (@eTData_eta) (H _ (List.getElem_mem hb) 1000 (by decide)) ?_
    refine Run (@eTData_eta) ?_; repeat' (first | (with_reducible exact True.intro) | (with_reducible refine Lf.mk ?_ ?_) | (with_reducible intro hb))
    have hs := filled_step' (E := eTData) (zs := [.sc (.string ⟨#[]⟩), .sl 0 []]) hb
    simp only [eTData_eta, setL_st, stL_one, slI] at hs
    exact Nxt (@hs) (lx + 1) (by omega) (by first | omega | (simp; omega))

theorem toTableDataS_q (xs : List TData) (hx : okLs (2^20) okTData xs) (H : ∀ t ∈ xs, ∀ q0 : Nat, [q0].Nodup → FnS Try.prog 116 [] [agT (eTData t)] [(q0, .row t.rows.length (t.rows.flatMap eVal))] (.ag [.im (.sc (.string t.name)), .os q0 t.rows.length])) (q : Nat) : FnS Try.prog 61 [] [slT eTData xs] [(q, .row xs.length (xs.flatMap eTData))] (.c (.os q xs.length)) := by
  obtain ⟨p, hp⟩ := pm1 14 q
  refine ((toTableDataS_w xs hx H).rows.pm p).as ?_ ?_ <;> simp [rowS, rowO, renS, Ob.ren, TV.ren, Cell.ren, hp]

theorem toTableDataS_o (xs : List TData) (h : okLs (2^20) okTData xs) (q : Nat) : FnS Try.prog 61 [] [slT eTData xs] [(q, .row xs.length (xs.flatMap eTData))] (.c (.os q xs.length)) := toTableDataS_q xs h (fun t ht => toTableData_o t (h.2 t ht)) q
def fc118STableData := (And.intro (And.intro (And.intro (And.intro sz4 ag4) (And.intro zv4 (And.intro un4 sz9))) (And.intro (And.intro ag9 (And.intro zv9 un9)) (And.intro sz103 (And.intro ag103 zv103)))) (And.intro (And.intro (And.intro sb103 un103) (And.intro el103 (And.intro ap103 sz156))) (And.intro (And.intro ag156 (And.intro zv156 fl156_0)) (And.intro fl156_1 (And.intro pl156 okf166)))))
theorem eqTableData_ok (t : TData) (h : okTData (2^20) t) : FnS Try.prog 118 [] [agT (eTData t), agT (eTData t)] [] (bT true) := by
  refine FnS.go [0, 1, 2, 3, 4, 9, 15] [] Try.func118 rfl (fun kt kz => ?_)
  have fcx := fc118STableData
  simp only [Try.f118]
  have ho := okTData_iff.1 h
  refine Run (@eTData_eta) ?_; repeat' (first | (with_reducible exact True.intro) | (with_reducible refine Lf.mk ?_ ?_) | (with_reducible intro hb))
  refine Cal (@eTData_eta) (eqValueS_ok _ ho.2) ?_
  refine Run (@eTData_eta) ?_; repeat' (first | (with_reducible exact True.intro) | (with_reducible refine Lf.mk ?_ ?_) | (with_reducible intro hb))
def fc64STableData := (And.intro (And.intro (And.intro (And.intro sz3 (And.intro ag3 zv3)) (And.intro un3 (And.intro sz4 ag4))) (And.intro (And.intro zv4 (And.intro un4 sz35)) (And.intro ag35 (And.intro zv35 sb35)))) (And.intro (And.intro (And.intro un35 (And.intro el35 ap35)) (And.intro sz156 (And.intro ag156 zv156))) (And.intro (And.intro fl156_0 (And.intro fl156_1 pl156)) (And.intro okf118 (And.intro sz9 sz103)))))
theorem eqTableDataS_of (xs : List TData) (hx : okLs (2^20) okTData xs) (H : ∀ t ∈ xs, FnP Try.prog 118 [agT (eTData t), agT (eTData t)] (bT true)) : FnS Try.prog 64 [] [slT eTData xs, slT eTData xs] [] (bT true) := by
  refine FnS.go [0, 1, 4, 5, 10, 14, 26] [] Try.func64 rfl (fun kt kz => ?_)
  have fcx := fc64STableData
  simp only [Try.f64]
  have hx1 := hx.1
  refine Run (cast_succ) ?_; repeat' (first | (with_reducible exact True.intro) | (with_reducible refine Lf.mk ?_ ?_) | (with_reducible intro hb))
  refine Trn (α := Nat) [4, 5, 11, 12, 13, 14, 15, 16, 17, 18, 19, 20, 21, 22, 23, 24, 25, 26] (fun i => [(5, iT i)]) (fun i => []) (fun i => i ≤ xs.length) (fun i => xs.length - i) (0) (Nat.zero_le _) (cast_succ) ?_; intro lx hI; obtain i := lx; (try simp only [List.nil_append, List.cons_append] at hI ⊢)
  refine Run (@eTData_eta) ?_; repeat' (first | (with_reducible exact True.intro) | (with_reducible refine Lf.mk ?_ ?_) | (with_reducible intro hb))
  · refine Cal (@eTData_eta) (H _ (List.getElem_mem hb)) ?_
    refine Run (@eTData_eta) ?_; repeat' (first | (with_reducible exact True.intro) | (with_reducible refine Lf.mk ?_ ?_) | (with_reducible intro hb))
    exact Nxt (cast_succ) (lx + 1) (by omega) (by first | omega | (simp; omega))

theorem eqTableDataS_ok (xs : List TData) (h : okLs (2^20) okTData xs) : FnP Try.prog 64 [slT eTData xs, slT eTData xs] (bT true) := eqTableDataS_of xs h (fun t ht => eqTableData_ok t (h.2 t ht))
theorem toTableData_ok (t : TData) (h : okTData (2^20) t) : FnP Try.prog 116 [agT (eTData t)] (agT (eTData t)) := (toTableData_o t h 1000 (by decide)).tree (by simp -dsimp (maxSteps := 2000000) (disch := omega) only [vs, ↓Option.bind_some, ev1, ofV, scalarB, Kn, Kb, calleeOf, evLoad, ptr, evField, evFieldAddr, shift, ↓pt_at, ↓pt_at1, evExtract, evBin, evLen, evConv, cellsT, noS, Cell.has, Cell.hasN, Cell.anyN, toIV, toIV0, toIVs, ownC, srcM, Ob.own, Ob.esz, allSc, nilK, lenC, ownCell, isPtr, ptrNil, frzO, Cell.frz, Cell.keys, ↓reduceIte, reduceCtorEq, Nat.reduceEqDiff, Nat.reduceBEq, Nat.reduceBNe, Nat.reduceAdd, Nat.reduceMul, Nat.reduceSub, Nat.reduceLT, Nat.reduceLeDiff, Nat.reducePow, Int.reduceLT, Int.reduceLE, Int.reduceEq, Int.reduceNe, quietB, Nat.reduceMod, Int.reduceToNat, ne_eq, eq_self, exists_const, evBytes, byRow, byL, byStr_size, ifsz, ByteArray.size_append, Option.none_or, Option.some_or, evLook, keyD, eTData_eta])
theorem toTableDataS_ok (xs : List TData) (h : okLs (2^20) okTData xs) : FnP Try.prog 61 [slT eTData xs] (slT eTData xs) := (toTableDataS_o xs h 1000).tree (by simp -dsimp (maxSteps := 2000000) (disch := omega) only [vs, ↓Option.bind_some, ev1, ofV, scalarB, Kn, Kb, calleeOf, evLoad, ptr, evField, evFieldAddr, shift, ↓pt_at, ↓pt_at1, evExtract, evBin, evLen, evConv, cellsT, noS, Cell.has, Cell.hasN, Cell.anyN, toIV, toIV0, toIVs, ownC, srcM, Ob.own, Ob.esz, allSc, nilK, lenC, ownCell, isPtr, ptrNil, frzO, Cell.frz, Cell.keys, ↓reduceIte, reduceCtorEq, Nat.reduceEqDiff, Nat.reduceBEq, Nat.reduceBNe, Nat.reduceAdd, Nat.reduceMul, Nat.reduceSub, Nat.reduceLT, Nat.reduceLeDiff, Nat.reducePow, Int.reduceLT, Int.reduceLE, Int.reduceEq, Int.reduceNe, quietB, Nat.reduceMod, Int.reduceToNat, ne_eq, eq_self, exists_const, evBytes, byRow, byL, byStr_size, ifsz, ByteArray.size_append, Option.none_or, Option.some_or, evLook, keyD])

end Go.VC.T
/- Data (DB): how they are measured, copied and compared. -/
namespace Go.VC.T
open Go Go.VC Go.Proofs Go.VC.F
set_option linter.unusedSimpArgs false
set_option linter.unusedVariables false
set_option linter.defProp false
set_option maxRecDepth 100000
set_option maxHeartbeats 2000000
def fc16SDB := (And.intro (And.intro (And.intro (And.intro sz3 ag3) (And.intro zv3 (And.intro un3 sz4))) (And.intro (And.intro ag4 zv4) (And.intro un4 (And.intro sz27 ag27)))) (And.intro (And.intro (And.intro zv27 sb27) (And.intro un27 (And.intro el27 ap27))) (And.intro (And.intro sz29 (And.intro ag29 zv29)) (And.intro fl29_0 (And.intro pl29 okf58)))))
theorem szDB_ok (t : List TData) (h : okDbs (2^48) t) (left : Int) (hl : 0 ≤ left ∧ left ≤ 2^20) : FnS Try.prog 16 [] [agT (eDbs t), iT left] [] (iT (szR (zDbs t) left)) := by
  refine FnS.go [0, 1, 2, 4, 10] [] Try.func16 rfl (fun kt kz => ?_)
  have fcx := fc16SDB
  simp only [Try.f16]
  have ho := okDbs_iff.1 h
  refine Run ((And.intro @eDbs_eta @szR_add)) ?_; repeat' (first | (with_reducible exact True.intro) | (with_reducible refine Lf.mk ?_ ?_) | (with_reducible intro hb))
  refine Cal ((And.intro @eDbs_eta @szR_add)) (szTableDataS_ok _ ho _ hl) ?_
  have hz := szR_le (n := zL zTData t) hl.1
  refine Run ((And.intro @eDbs_eta @szR_add)) ?_; repeat' (first | (with_reducible exact True.intro) | (with_reducible refine Lf.mk ?_ ?_) | (with_reducible intro hb))
  · congr 4; have s1 := szR_spec (zL zTData t) left; have s2 := szR_spec (zDbs t) left; rw [zDbs_eta] at s2 ⊢; omega
  · skip
    rw [zDbs_eta]

def fc19SDB := (And.intro (And.intro (And.intro (And.intro sz27 (And.intro ag27 zv27)) (And.intro sb27 (And.intro un27 el27))) (And.intro (And.intro ap27 (And.intro sz29 ag29)) (And.intro zv29 (And.intro fl29_0 pl29)))) (And.intro (And.intro (And.intro sz35 (And.intro ag35 zv35)) (And.intro sb35 (And.intro un35 el35))) (And.intro (And.intro ap35 (And.intro sz37 ag37)) (And.intro (And.intro zv37 fl37_0) (And.intro pl37 okf61)))))
theorem toDB_w (t : List TData) (h : okDbs (2^20) t) : FnS Try.prog 19 [] [agT (eDbs t)] [(1000, .row t.length (t.flatMap eTData))] (.ag [.os 1000 t.length]) := by
  refine FnS.go [0, 1, 2, 3] [] Try.func19 rfl (fun kt kz => ?_)
  have fcx := fc19SDB
  simp only [Try.f19]
  have ho := okDbs_iff.1 h
  refine Run (@eDbs_eta) ?_; repeat' (first | (with_reducible exact True.intro) | (with_reducible refine Lf.mk ?_ ?_) | (with_reducible intro hb))
  refine CalI (@eDbs_eta) (toTableDataS_o _ ho 1000) ?_
  refine Run (@eDbs_eta) ?_; repeat' (first | (with_reducible exact True.intro) | (with_reducible refine Lf.mk ?_ ?_) | (with_reducible intro hb))

theorem toDB_o (t : List TData) (h : okDbs (2^20) t) : ∀ q0 : Nat, [q0].Nodup → FnS Try.prog 19 [] [agT (eDbs t)] [(q0, .row t.length (t.flatMap eTData))] (.ag [.os q0 t.length]) := by
  intro q0 hq
  obtain ⟨p, hp⟩ := pml [1000] [q0] (by decide) hq rfl
  simp only [List.map_cons, List.map_nil, List.cons.injEq, and_true] at hp
  refine ((toDB_w t h).rows.pm p).as ?_ ?_ <;> simp [rowS, rowO, renS, Ob.ren, TV.ren, renL, Cell.ren, hp]

def fc22SDB := (And.intro (And.intro (And.intro (And.intro sz4 ag4) (And.intro zv4 un4)) (And.intro (And.intro sz35 ag35) (And.intro zv35 sb35))) (And.intro (And.intro (And.intro un35 el35) (And.intro ap35 sz37)) (And.intro (And.intro ag37 zv37) (And.intro fl37_0 (And.intro pl37 okf64)))))
theorem eqDB_ok (t : List TData) (h : okDbs (2^20) t) : FnS Try.prog 22 [] [agT (eDbs t), agT (eDbs t)] [] (bT true) := by
  refine FnS.go [0, 1, 2, 3, 4, 10] [] Try.func22 rfl (fun kt kz => ?_)
  have fcx := fc22SDB
  simp only [Try.f22]
  have ho := okDbs_iff.1 h
  refine Run (@eDbs_eta) ?_; repeat' (first | (with_reducible exact True.intro) | (with_reducible refine Lf.mk ?_ ?_) | (with_reducible intro hb))
  refine Cal (@eDbs_eta) (eqTableDataS_ok _ ho) ?_
  refine Run (@eDbs_eta) ?_; repeat' (first | (with_reducible exact True.intro) | (with_reducible refine Lf.mk ?_ ?_) | (with_reducible intro hb))

theorem toDB_ok (t : List TData) (h : okDbs (2^20) t) : FnP Try.prog 19 [agT (eDbs t)] (agT (eDbs t)) := (toDB_o t h 1000 (by decide)).tree (by simp -dsimp (maxSteps := 2000000) (disch := omega) only [vs, ↓Option.bind_some, ev1, ofV, scalarB, Kn, Kb, calleeOf, evLoad, ptr, evField, evFieldAddr, shift, ↓pt_at, ↓pt_at1, evExtract, evBin, evLen, evConv, cellsT, noS, Cell.has, Cell.hasN, Cell.anyN, toIV, toIV0, toIVs, ownC, srcM, Ob.own, Ob.esz, allSc, nilK, lenC, ownCell, isPtr, ptrNil, frzO, Cell.frz, Cell.keys, ↓reduceIte, reduceCtorEq, Nat.reduceEqDiff, Nat.reduceBEq, Nat.reduceBNe, Nat.reduceAdd, Nat.reduceMul, Nat.reduceSub, Nat.reduceLT, Nat.reduceLeDiff, Nat.reducePow, Int.reduceLT, Int.reduceLE, Int.reduceEq, Int.reduceNe, quietB, Nat.reduceMod, Int.reduceToNat, ne_eq, eq_self, exists_const, evBytes, byRow, byL, byStr_size, ifsz, ByteArray.size_append, Option.none_or, Option.some_or, evLook, keyD, eDbs_eta])

end Go.VC.T
/- Rows of a table; copies of values. -/
namespace Go.VC
open Go
/-- The rows of a table; none without it. -/
def rowsD (db : List TData) (s : ByteArray) : List Val := match db.find? (fun t => decide (t.name = s)) with
  | some t => t.rows
  | none => []
theorem rowsD_at {db : List TData} {s : ByteArray} {i : Nat} (h : i < db.length) (ht : (db.take i).any (fun t => decide (t.name = s)) = false) (hp : db[i].name = s) : rowsD db s = db[i].rows := by
  unfold rowsD
  have e : db.find? (fun t => decide (t.name = s)) = some db[i] := by
    rw [List.find?_eq_some_iff_getElem]
    refine ⟨by simpa using hp, i, h, rfl, fun j hj => ?_⟩
    have := List.any_eq_false.1 ht db[j] (by
      rw [List.mem_iff_getElem]
      exact ⟨j, by simp; omega, by simp⟩)
    simpa using this
  rw [e]
theorem rowsD_no {db : List TData} {s : ByteArray} (h : db.any (fun t => decide (t.name = s)) = false) : rowsD db s = [] := by
  unfold rowsD
  have e : db.find? (fun t => decide (t.name = s)) = none := by
    rw [List.find?_eq_none]
    intro x hx
    have := List.any_eq_false.1 h x hx
    simpa using this
  rw [e]
end Go.VC
namespace Go.VC.T
open Go Go.VC Go.Proofs Go.VC.F
set_option linter.unusedSimpArgs false
set_option linter.unusedVariables false
set_option linter.defProp false
set_option maxRecDepth 100000
set_option maxHeartbeats 2000000
def fc114A31 := (And.intro (And.intro (And.intro (And.intro sz3 (And.intro ag3 zv3)) (And.intro (And.intro un3 sz4) (And.intro ag4 zv4))) (And.intro (And.intro (And.intro un4 sz9) (And.intro ag9 zv9)) (And.intro (And.intro un9 sz35) (And.intro ag35 zv35)))) (And.intro (And.intro (And.intro (And.intro sb35 un35) (And.intro el35 ap35)) (And.intro (And.intro sz37 ag37) (And.intro zv37 fl37_0))) (And.intro (And.intro (And.intro pl37 sz156) (And.intro ag156 zv156)) (And.intro (And.intro fl156_0 fl156_1) (And.intro pl156 sz103)))))
theorem l9Table_ok (db : List TData) (s : ByteArray) (hd : okDbs (2^20) db) : FnS Try.prog 114 [] [agT (eDbs db), sT s] [] (iT (idxI (fun t => decide (t.name = s)) db)) := by
  refine FnS.go [0, 1, 2, 4, 5, 10, 20] [] Try.func114 rfl (fun kt kz => ?_)
  have fcx := fc114A31
  simp only [Try.f114]
  have ho := okDbs_iff.1 hd
  have hl := ho.1
  refine Run (@eDbs_eta) ?_; repeat' (first | (with_reducible exact True.intro) | (with_reducible refine Lf.mk ?_ ?_) | (with_reducible intro hb))
  refine Trn (α := Nat) [4, 5, 6, 7, 8, 9, 10, 11, 12, 13, 14, 15, 16, 17, 18, 19, 20, 21] (fun i => [(5, iT i)]) (fun i => [(4, .box 37 ((eDbs db).map .im))]) (fun i => i ≤ db.length ∧ (db.take i).any (fun t => decide (t.name = s)) = false) (fun i => db.length - i) (0) (⟨Nat.zero_le _, rfl⟩) (@eDbs_eta) ?_; intro lx hI; obtain i := lx; (try simp only [List.nil_append, List.cons_append] at hI ⊢)
  by_cases hlt : lx < db.length
  · refine Run ((And.intro @eDbs_eta (And.intro @eTData_eta @hlt))) ?_; repeat' (first | (with_reducible exact True.intro) | (with_reducible refine Lf.mk ?_ ?_) | (with_reducible intro hb))
    · rw [idx_at (p := fun t => decide (t.name = s)) hlt hI.2 (by simpa using hb)]
    · exact Nxt (@eDbs_eta) (lx + 1) (⟨by omega, any_take hlt hI.2 (by simpa using hb)⟩) (by first | omega | (simp; omega))
  · have ha := any_all (by omega) hI.2
    refine Run ((And.intro @eDbs_eta @hlt)) ?_; repeat' (first | (with_reducible exact True.intro) | (with_reducible refine Lf.mk ?_ ?_) | (with_reducible intro hb))
    rw [idx_no ha]
def fc62A31 := (And.intro (And.intro (And.intro (And.intro (And.intro sz3 ag3) (And.intro zv3 un3)) (And.intro (And.intro sz4 ag4) (And.intro zv4 (And.intro un4 sz9)))) (And.intro (And.intro (And.intro ag9 zv9) (And.intro un9 sz35)) (And.intro (And.intro ag35 zv35) (And.intro sb35 (And.intro un35 el35))))) (And.intro (And.intro (And.intro (And.intro ap35 sz37) (And.intro ag37 zv37)) (And.intro (And.intro fl37_0 pl37) (And.intro sz103 (And.intro ag103 zv103)))) (And.intro (And.intro (And.intro sb103 un103) (And.intro el103 (And.intro ap103 sz156))) (And.intro (And.intro ag156 zv156) (And.intro fl156_0 (And.intro fl156_1 pl156))))))
theorem rowsOfI_ok (db : List TData) (s : ByteArray) (hd : okDbs (2^20) db) (hs : db.any (fun t => decide (t.name = s)) = true) : FnS Try.prog 62 [] [agT (eDbs db), sT s] [] (slT eVal (rowsD db s)) := by
  refine FnS.go [0, 1, 2, 4, 6, 8, 9, 10, 11, 17] [] Try.func62 rfl (fun kt kz => ?_)
  have fcx := fc62A31
  simp only [Try.f62]
  have ho := okDbs_iff.1 hd
  have hl := ho.1
  refine Run (@eDbs_eta) ?_; repeat' (first | (with_reducible exact True.intro) | (with_reducible refine Lf.mk ?_ ?_) | (with_reducible intro hb))
  refine Trn (α := Nat) [4, 6, 10, 11, 12, 13, 14, 15, 16, 17, 18, 19, 20] (fun i => [(10, iT i)]) (fun i => [(4, .box 37 ((eDbs db).map .im))]) (fun i => i ≤ db.length ∧ (db.take i).any (fun t => decide (t.name = s)) = false) (fun i => db.length - i) (0) (⟨Nat.zero_le _, rfl⟩) (@eDbs_eta) ?_; intro lx hI; obtain i := lx; (try simp only [List.nil_append, List.cons_append] at hI ⊢)
  by_cases hlt : lx < db.length
  · refine Run ((And.intro @eDbs_eta (And.intro @eTData_eta @hlt))) ?_; repeat' (first | (with_reducible exact True.intro) | (with_reducible refine Lf.mk ?_ ?_) | (with_reducible intro hb))
    · rw [rowsD_at hlt hI.2 hb]
    · exact Nxt (@eDbs_eta) (lx + 1) (⟨by omega, any_take hlt hI.2 (by simpa using hb)⟩) (by first | omega | (simp; omega))
  · have ha := any_all (by omega) hI.2
    rw [hs] at ha; cases ha
def fc164A31 := (And.intro (And.intro (And.intro (And.intro sz3 (And.intro ag3 zv3)) (And.intro (And.intro un3 sz4) (And.intro ag4 zv4))) (And.intro (And.intro (And.intro un4 sz63) (And.intro ag63 zv63)) (And.intro (And.intro sb63 un63) (And.intro el63 ap63)))) (And.intro (And.intro (And.intro (And.intro sz103 ag103) (And.intro zv103 sb103)) (And.intro (And.intro un103 el103) (And.intro ap103 sz107))) (And.intro (And.intro (And.intro ag107 zv107) (And.intro fl107_0 fl107_1)) (And.intro (And.intro fl107_2 fl107_3) (And.intro pl107 okf164)))))
theorem l5Copy_of (v : Val) (hv : okVal (2^20) v) (H : ∀ u ∈ v.args, FnP Try.prog 164 [agT (eVal u)] (agT (eVal u))) : FnS Try.prog 164 [] [agT (eVal v)] [] (agT (eVal v)) := by
  refine FnS.go [0, 1, 2, 3, 4, 18] [1000] Try.func164 rfl (fun kt kz => ?_)
  have fcx := fc164A31
  simp only [Try.f164]
  have dx : Dx 10 9 3 := ⟨⟩
  have ho := okVal_iff.1 hv
  have hl1 := ho.2.2.1.1
  have hl := ho.2.2.2.1
  refine RunX (@eVal_eta) ?_; repeat' (first | (with_reducible exact True.intro) | (with_reducible refine Lf.mk ?_ ?_) | (with_reducible intro hb))
  refine Sm.nlB (6) 3 (1000) (107) 4 false (by rfl) (by rfl) (by rfl) (by decide) (by rfl) (by rfl) (by decide) (by rfl) ?_; simp only [upd, List.set_cons_zero, List.set_cons_succ, ↓reduceIte, Nat.reduceEqDiff]
  refine Trn (α := Nat) [4, 14, 15, 16, 17, 18, 19, 20, 21, 22, 23, 24, 25, 26, 27, 28, 29, 30, 31] (fun i => [(4, iT i)]) (fun i => [(2, .box 107 ((eVal v).map .im)), (4, .box 107 [.im (.sc (.int .i64 0)), .im (.sc (.int .i64 0)), .nl, .nl]), (6, .box 107 [.im (.sc (.int .i64 v.kind)), .im (.sc (.int .i64 v.n)), .im (.sl v.labels.length (v.labels.flatMap eS)), .os 1000 i]), (1000, .vec 107 4 i ((v.args.take i).flatMap eVal) false)]) (fun i => i ≤ v.args.length) (fun i => v.args.length - i) (0) (Nat.zero_le _) (@eVal_eta) ?_; intro lx hI; obtain i := lx; (try simp only [List.nil_append, List.cons_append] at hI ⊢)
  by_cases hlt : lx < v.args.length
  · have e1 : (v.args.take lx).flatMap eVal ++ eVal v.args[lx] = (v.args.take (lx + 1)).flatMap eVal := by rw [take_at hlt, List.flatMap_append, flat_one]
    rw [eVal_eta v.args[lx]] at e1
    simp only [slI] at e1
    refine Run ((And.intro @eVal_eta @hlt)) ?_; repeat' (first | (with_reducible exact True.intro) | (with_reducible refine Lf.mk ?_ ?_) | (with_reducible intro hb))
    refine CalI (@eVal_eta) (H _ (List.getElem_mem hlt)) ?_
    refine Run ((And.intro @eVal_eta @hlt)) ?_; repeat' (first | (with_reducible exact True.intro) | (with_reducible refine Lf.mk ?_ ?_) | (with_reducible intro hb))
    exact Nxt ((And.intro @eVal_eta @e1)) (lx + 1) (hlt) (by first | omega | (simp; omega))
  · obtain rfl : lx = v.args.length := by omega
    have e1 : (v.args.take v.args.length).flatMap eVal = v.args.flatMap eVal := by rw [List.take_length]
    refine Run ((And.intro @eVal_eta (And.intro @hlt @e1))) ?_; repeat' (first | (with_reducible exact True.intro) | (with_reducible refine Lf.mk ?_ ?_) | (with_reducible intro hb))

theorem l5Copy_ok (v : Val) (hv : okVal (2^20) v) : FnP Try.prog 164 [agT (eVal v)] (agT (eVal v)) :=
  l5Copy_of v hv fun u hu => l5Copy_ok u ((okVal_iff.1 hv).2.2.2.2 u hu)
termination_by SizeOf.sizeOf v
decreasing_by exact Val.mem hu
end Go.VC.T
/- The conjuncts of a term; a plan's numbers of rows: no program in sight. -/
set_option linter.unusedSimpArgs false
set_option linter.unusedVariables false
namespace Go.VC
open Go
/-- The conjuncts of a term. -/
def partsT : Tm → List Tm
  | .mk k s n ty l [a, b] => if k = 4 ∧ s = ⟨#[38]⟩ then partsT a ++ partsT b else [.mk k s n ty l [a, b]]
  | t => [t]
/-- Is it a conjunction? -/
def andT (t : Tm) : Prop := t.kind = 4 ∧ t.name = ⟨#[38]⟩ ∧ t.args.length = 2
theorem partsT_and {t : Tm} (h : andT t) : ∀ (h0 : 0 < t.args.length) (h1 : 1 < t.args.length), partsT t = partsT t.args[0] ++ partsT t.args[1] := by
  intro h0 h1
  cases t with
  | mk k s n ty l ar =>
    obtain ⟨e1, e2, e3⟩ := h
    match ar, e3 with
    | [a, b], _ =>
      simp only [Tm.kind, Tm.name] at e1 e2
      subst e1; subst e2
      rw [partsT, if_pos ⟨rfl, rfl⟩]
      rfl
theorem partsT_one {t : Tm} (h : ¬ andT t) : partsT t = [t] := by
  cases t with
  | mk k s n ty l ar =>
    match ar with
    | [a, b] => rw [partsT, if_neg fun hc => h ⟨hc.1, hc.2, rfl⟩]
    | [] => rw [partsT]; intros; simp_all
    | [a] => rw [partsT]; intros; simp_all
    | a :: b :: c :: r => rw [partsT]; intros; simp_all
end Go.VC
/- Data (Type): how they are measured, copied and compared. -/
namespace Go.VC.T
open Go Go.VC Go.Proofs Go.VC.F
set_option linter.unusedSimpArgs false
set_option linter.unusedVariables false
set_option linter.defProp false
set_option maxRecDepth 100000
set_option maxHeartbeats 2000000
def fc138SType := (And.intro (And.intro (And.intro (And.intro sz3 (And.intro ag3 zv3)) (And.intro (And.intro un3 sz4) (And.intro ag4 zv4))) (And.intro (And.intro (And.intro un4 sz63) (And.intro ag63 zv63)) (And.intro (And.intro sb63 un63) (And.intro el63 ap63)))) (And.intro (And.intro (And.intro (And.intro sz64 ag64) (And.intro zv64 sb64)) (And.intro (And.intro un64 el64) (And.intro ap64 sz66))) (And.intro (And.intro (And.intro ag66 zv66) (And.intro fl66_0 fl66_1)) (And.intro (And.intro fl66_2 pl66) (And.intro okf139 okf176)))))
theorem szType_of (t : Ty) (h : okTy (2^48) t) (H0 : ∀ left : Int, 0 ≤ left ∧ left ≤ 2^20 → FnP Try.prog 176 [slT eTy t.args, iT left] (iT (szR (zL zTy t.args) left))) (left : Int) (hl : 0 ≤ left ∧ left ≤ 2^20) : FnS Try.prog 138 [] [agT (eTy t), iT left] [] (iT (szR (zTy t) left)) := by
  refine FnS.go [0, 1, 2, 4, 10, 16] [] Try.func138 rfl (fun kt kz => ?_)
  have fcx := fc138SType
  simp only [Try.f138]
  have ho := okTy_iff.1 h
  refine Run ((And.intro @eTy_eta @szR_add)) ?_; repeat' (first | (with_reducible exact True.intro) | (with_reducible refine Lf.mk ?_ ?_) | (with_reducible intro hb))
  refine Cal ((And.intro @eTy_eta @szR_add)) (szStringS_ok _ ho.2.1 _ hl) ?_
  have hz := szR_le (n := zSL t.labels) hl.1
  refine Run ((And.intro @eTy_eta @szR_add)) ?_; repeat' (first | (with_reducible exact True.intro) | (with_reducible refine Lf.mk ?_ ?_) | (with_reducible intro hb))
  · congr 4; have s1 := szR_spec (zSL t.labels) left; have s2 := szR_spec (zTy t) left; rw [zTy_eta] at s2 ⊢; omega
  · skip
    refine Cal ((And.intro @eTy_eta @szR_add)) (H0 _ ⟨(by assumption), by have := szR_le (n := zSL t.labels) hl.1; omega⟩) ?_
    have hz := szR_le (n := zSL t.labels + zL zTy t.args) hl.1
    refine Run ((And.intro @eTy_eta @szR_add)) ?_; repeat' (first | (with_reducible exact True.intro) | (with_reducible refine Lf.mk ?_ ?_) | (with_reducible intro hb))
    · congr 4; have s1 := szR_spec (zSL t.labels + zL zTy t.args) left; have s2 := szR_spec (zTy t) left; rw [zTy_eta] at s2 ⊢; omega
    · skip
      rw [zTy_eta]
def fc176SType := (And.intro (And.intro (And.intro (And.intro sz3 (And.intro ag3 zv3)) (And.intro un3 (And.intro sz4 ag4))) (And.intro (And.intro zv4 (And.intro un4 sz64)) (And.intro ag64 (And.intro zv64 sb64)))) (And.intro (And.intro (And.intro un64 (And.intro el64 ap64)) (And.intro sz66 (And.intro ag66 zv66))) (And.intro (And.intro fl66_0 (And.intro fl66_1 fl66_2)) (And.intro pl66 (And.intro okf138 sz63)))))
theorem szTypeS_of (xs : List Ty) (hx : okLs (2^48) okTy xs) (H : ∀ t ∈ xs, ∀ left : Int, 0 ≤ left ∧ left ≤ 2^20 → FnP Try.prog 138 [agT (eTy t), iT left] (iT (szR (zTy t) left))) (left : Int) (hl : 0 ≤ left ∧ left ≤ 2^20) : FnS Try.prog 176 [] [slT eTy xs, iT left] [] (iT (szR (zL zTy xs) left)) := by
  refine FnS.go [0, 1, 4, 5, 11, 15, 25] [] Try.func176 rfl (fun kt kz => ?_)
  have fcx := fc176SType
  simp only [Try.f176]
  have hx1 := hx.1
  refine Run (cast_succ) ?_; repeat' (first | (with_reducible exact True.intro) | (with_reducible refine Lf.mk ?_ ?_) | (with_reducible intro hb))
  · simp only [szR_nil hb zL_len]
  · rw [szR_sub hb]
    have hb2 := szR_sub hb ▸ hb
    refine Trn (α := Nat) [1, 4, 5, 12, 13, 14, 15, 16, 17, 18, 19, 20, 21, 22, 23, 24, 25] (fun i => [(5, iT i), (1, iT (szR (zT zTy xs i) left))]) (fun i => []) (fun i => i ≤ xs.length ∧ 0 ≤ szR (zT zTy xs i) left) (fun i => xs.length - i) (0) (⟨Nat.zero_le _, by rw [zT_zero]; exact hb2⟩) ((zT_zero (z := zTy) (l := xs))) ?_; intro lx hI; obtain i := lx; (try simp only [List.nil_append, List.cons_append] at hI ⊢)
    have hz := szR_le (n := zT zTy xs lx) hl.1
    by_cases hlt : lx < xs.length
    · have e : szR (zTy xs[lx]) (szR (zT zTy xs lx) left) = szR (zT zTy xs (lx + 1)) left := by rw [zT_succ hlt, ← szR_add]
      refine Run (@eTy_eta) ?_; repeat' (first | (with_reducible exact True.intro) | (with_reducible refine Lf.mk ?_ ?_) | (with_reducible intro hb))
      · refine Cal (@eTy_eta) (H _ (List.getElem_mem hlt) _ ⟨hI.2, by omega⟩) ?_
        refine Run (cast_succ) ?_; repeat' (first | (with_reducible exact True.intro) | (with_reducible refine Lf.mk ?_ ?_) | (with_reducible intro hb))
        · rw [e] at hb
          rw [szR_neg hb zT_le]
        · rw [e] at hb
          exact Nxt (@e) (lx + 1) (⟨by omega, hb⟩) (by first | omega | (simp; omega))
      · omega
    · refine Run (cast_succ) ?_; repeat' (first | (with_reducible exact True.intro) | (with_reducible refine Lf.mk ?_ ?_) | (with_reducible intro hb))
      · omega
      · rw [zT_all (by omega)]

theorem szType_ok (t : Ty) (h : okTy (2^48) t) (left : Int) (hl : 0 ≤ left ∧ left ≤ 2^20) : FnP Try.prog 138 [agT (eTy t), iT left] (iT (szR (zTy t) left)) := szType_of t h (fun left hl => szTypeS_of t.args ((okTy_iff.1 h).2.2) (fun u hu left hl => szType_ok u (((okTy_iff.1 h).2.2).2 u hu) left hl) left hl) left hl
termination_by SizeOf.sizeOf t
decreasing_by all_goals first | exact Ty.mem hu | exact Val.mem hu | exact Tm.mem hu | exact Pl.mem hu | exact Hd.memP hu | exact Hd.memQ hu | exact Cmp.memH _
theorem szTypeS_ok (xs : List Ty) (h : okLs (2^48) okTy xs) (left : Int) (hl : 0 ≤ left ∧ left ≤ 2^20) : FnP Try.prog 176 [slT eTy xs, iT left] (iT (szR (zL zTy xs) left)) := szTypeS_of xs h (fun t ht left hl => szType_ok t (h.2 t ht) left hl) left hl
def fc142SType := (And.intro (And.intro (And.intro (And.intro (And.intro sz3 ag3) (And.intro zv3 (And.intro un3 sz63))) (And.intro (And.intro ag63 zv63) (And.intro sb63 (And.intro un63 el63)))) (And.intro (And.intro (And.intro ap63 sz64) (And.intro ag64 (And.intro zv64 sb64))) (And.intro (And.intro un64 el64) (And.intro ap64 (And.intro sz66 ag66))))) (And.intro (And.intro (And.intro (And.intro zv66 fl66_0) (And.intro fl66_1 (And.intro fl66_2 pl66))) (And.intro (And.intro sz75 ag75) (And.intro zv75 (And.intro sb75 un75)))) (And.intro (And.intro (And.intro el75 ap75) (And.intro sz77 (And.intro ag77 zv77))) (And.intro (And.intro fl77_0 (And.intro fl77_1 fl77_2)) (And.intro pl77 (And.intro okf143 okf178))))))
theorem toType_w (t : Ty) (h : okTy (2^20) t) (H0 : ∀ q : Nat, FnS Try.prog 178 [] [slT eTy t.args] [(q, .row t.args.length (t.args.flatMap eTy))] (.c (.os q t.args.length))) : FnS Try.prog 142 [] [agT (eTy t)] [(1000, .row t.labels.length (t.labels.flatMap eS)), (1002, .row t.args.length (t.args.flatMap eTy))] (.ag [.im (.sc (.int .i64 t.kind)), .os 1000 t.labels.length, .os 1002 t.args.length]) := by
  refine FnS.go [0, 1, 2, 3] [] Try.func142 rfl (fun kt kz => ?_)
  have fcx := fc142SType
  simp only [Try.f142]
  have ho := okTy_iff.1 h
  refine Run (@eTy_eta) ?_; repeat' (first | (with_reducible exact True.intro) | (with_reducible refine Lf.mk ?_ ?_) | (with_reducible intro hb))
  refine CalI (@eTy_eta) (toStringS_o _ ho.2.1 1000) ?_
  refine Run (@eTy_eta) ?_; repeat' (first | (with_reducible exact True.intro) | (with_reducible refine Lf.mk ?_ ?_) | (with_reducible intro hb))
  refine CalI (@eTy_eta) (H0 1002) ?_
  refine Run (@eTy_eta) ?_; repeat' (first | (with_reducible exact True.intro) | (with_reducible refine Lf.mk ?_ ?_) | (with_reducible intro hb))

theorem toType_q (t : Ty) (h : okTy (2^20) t) (H0 : ∀ q : Nat, FnS Try.prog 178 [] [slT eTy t.args] [(q, .row t.args.length (t.args.flatMap eTy))] (.c (.os q t.args.length))) : ∀ q0 q1 : Nat, [q0, q1].Nodup → FnS Try.prog 142 [] [agT (eTy t)] [(q0, .row t.labels.length (t.labels.flatMap eS)), (q1, .row t.args.length (t.args.flatMap eTy))] (.ag [.im (.sc (.int .i64 t.kind)), .os q0 t.labels.length, .os q1 t.args.length]) := by
  intro q0 q1 hq
  obtain ⟨p, hp⟩ := pml [1000, 1002] [q0, q1] (by decide) hq rfl
  simp only [List.map_cons, List.map_nil, List.cons.injEq, and_true] at hp
  refine ((toType_w t h H0).rows.pm p).as ?_ ?_ <;> simp [rowS, rowO, renS, Ob.ren, TV.ren, renL, Cell.ren, hp]
def fc178SType := (And.intro (And.intro (And.intro (And.intro (And.intro sz3 ag3) (And.intro zv3 un3)) (And.intro (And.intro sz4 ag4) (And.intro zv4 (And.intro un4 sz64)))) (And.intro (And.intro (And.intro ag64 zv64) (And.intro sb64 (And.intro un64 el64))) (And.intro (And.intro ap64 sz66) (And.intro ag66 (And.intro zv66 fl66_0))))) (And.intro (And.intro (And.intro (And.intro fl66_1 fl66_2) (And.intro pl66 sz75)) (And.intro (And.intro ag75 zv75) (And.intro sb75 (And.intro un75 el75)))) (And.intro (And.intro (And.intro ap75 sz77) (And.intro ag77 (And.intro zv77 fl77_0))) (And.intro (And.intro fl77_1 fl77_2) (And.intro pl77 (And.intro okf142 sz63))))))
theorem toTypeS_w (xs : List Ty) (hx : okLs (2^20) okTy xs) (H : ∀ t ∈ xs, ∀ q0 q1 : Nat, [q0, q1].Nodup → FnS Try.prog 142 [] [agT (eTy t)] [(q0, .row t.labels.length (t.labels.flatMap eS)), (q1, .row t.args.length (t.args.flatMap eTy))] (.ag [.im (.sc (.int .i64 t.kind)), .os q0 t.labels.length, .os q1 t.args.length])) : FnS Try.prog 178 [] [slT eTy xs] [(14, .vec 77 3 xs.length (xs.flatMap eTy) true)] (.c (.os 14 xs.length)) := by
  refine FnS.go [0, 2, 3, 4, 11] [] Try.func178 rfl (fun kt kz => ?_)
  have fcx := fc178SType
  simp only [Try.f178]
  have hx1 := hx.1
  refine Run (cast_succ) ?_; repeat' (first | (with_reducible exact True.intro) | (with_reducible refine Lf.mk ?_ ?_) | (with_reducible intro hb))
  refine Trn (α := Nat) [4, 8, 9, 10, 11, 12, 13, 14, 15, 16, 17, 18, 19, 20, 21] (fun i => [(4, iT i), (3, .c (.os 14 xs.length))]) (fun i => [(14, .vec 77 3 xs.length (filled eTy [.sc (.int .i64 0), .sl 0 [], .sl 0 []] xs i) true)]) (fun i => i ≤ xs.length) (fun i => xs.length - i) (0) (Nat.zero_le _) (cast_succ) ?_; intro lx hI; obtain i := lx; (try simp only [List.nil_append, List.cons_append] at hI ⊢)
  refine Run (@eTy_eta) ?_; repeat' (first | (with_reducible exact True.intro) | (with_reducible refine Lf.mk ?_ ?_) | (with_reducible intro hb))
  · refine CalI (@eTy_eta) (H _ (List.getElem_mem hb) 1000 1002 (by decide)) ?_
    refine Run (@eTy_eta) ?_; repeat' (first | (with_reducible exact True.intro) | (with_reducible refine Lf.mk ?_ ?_) | (with_reducible intro hb))
    have hs := filled_step' (E := eTy) (zs := [.sc (.int .i64 0), .sl 0 [], .sl 0 []]) hb
    simp only [eTy_eta, setL_st, stL_one, slI] at hs
    exact Nxt (@hs) (lx + 1) (by omega) (by first | omega | (simp; omega))

theorem toTypeS_q (xs : List Ty) (hx : okLs (2^20) okTy xs) (H : ∀ t ∈ xs, ∀ q0 q1 : Nat, [q0, q1].Nodup → FnS Try.prog 142 [] [agT (eTy t)] [(q0, .row t.labels.length (t.labels.flatMap eS)), (q1, .row t.args.length (t.args.flatMap eTy))] (.ag [.im (.sc (.int .i64 t.kind)), .os q0 t.labels.length, .os q1 t.args.length])) (q : Nat) : FnS Try.prog 178 [] [slT eTy xs] [(q, .row xs.length (xs.flatMap eTy))] (.c (.os q xs.length)) := by
  obtain ⟨p, hp⟩ := pm1 14 q
  refine ((toTypeS_w xs hx H).rows.pm p).as ?_ ?_ <;> simp [rowS, rowO, renS, Ob.ren, TV.ren, Cell.ren, hp]

theorem toType_o (t : Ty) (h : okTy (2^20) t) : ∀ q0 q1 : Nat, [q0, q1].Nodup → FnS Try.prog 142 [] [agT (eTy t)] [(q0, .row t.labels.length (t.labels.flatMap eS)), (q1, .row t.args.length (t.args.flatMap eTy))] (.ag [.im (.sc (.int .i64 t.kind)), .os q0 t.labels.length, .os q1 t.args.length]) := toType_q t h (fun q => toTypeS_q t.args ((okTy_iff.1 h).2.2) (fun u hu => toType_o u (((okTy_iff.1 h).2.2).2 u hu)) q)
termination_by SizeOf.sizeOf t
decreasing_by all_goals first | exact Ty.mem hu | exact Val.mem hu | exact Tm.mem hu | exact Pl.mem hu | exact Hd.memP hu | exact Hd.memQ hu | exact Cmp.memH _
theorem toTypeS_o (xs : List Ty) (h : okLs (2^20) okTy xs) (q : Nat) : FnS Try.prog 178 [] [slT eTy xs] [(q, .row xs.length (xs.flatMap eTy))] (.c (.os q xs.length)) := toTypeS_q xs h (fun t ht => toType_o t (h.2 t ht)) q
def fc146SType := (And.intro (And.intro (And.intro (And.intro sz3 (And.intro ag3 zv3)) (And.intro (And.intro un3 sz4) (And.intro ag4 zv4))) (And.intro (And.intro (And.intro un4 sz63) (And.intro ag63 zv63)) (And.intro (And.intro sb63 un63) (And.intro el63 ap63)))) (And.intro (And.intro (And.intro (And.intro sz75 ag75) (And.intro zv75 sb75)) (And.intro (And.intro un75 el75) (And.intro ap75 sz77))) (And.intro (And.intro (And.intro ag77 zv77) (And.intro fl77_0 fl77_1)) (And.intro (And.intro fl77_2 pl77) (And.intro okf147 okf181)))))
theorem eqType_of (t : Ty) (h : okTy (2^20) t) (H0 : FnP Try.prog 181 [slT eTy t.args, slT eTy t.args] (bT true)) : FnS Try.prog 146 [] [agT (eTy t), agT (eTy t)] [] (bT true) := by
  refine FnS.go [0, 1, 2, 3, 4, 9, 15, 21] [] Try.func146 rfl (fun kt kz => ?_)
  have fcx := fc146SType
  simp only [Try.f146]
  have ho := okTy_iff.1 h
  refine Run (@eTy_eta) ?_; repeat' (first | (with_reducible exact True.intro) | (with_reducible refine Lf.mk ?_ ?_) | (with_reducible intro hb))
  refine Cal (@eTy_eta) (eqStringS_rf _ ho.2.1) ?_
  refine Run (@eTy_eta) ?_; repeat' (first | (with_reducible exact True.intro) | (with_reducible refine Lf.mk ?_ ?_) | (with_reducible intro hb))
  refine Cal (@eTy_eta) (H0) ?_
  refine Run (@eTy_eta) ?_; repeat' (first | (with_reducible exact True.intro) | (with_reducible refine Lf.mk ?_ ?_) | (with_reducible intro hb))
def fc181SType := (And.intro (And.intro (And.intro (And.intro sz3 (And.intro ag3 zv3)) (And.intro un3 (And.intro sz4 ag4))) (And.intro (And.intro zv4 (And.intro un4 sz75)) (And.intro ag75 (And.intro zv75 sb75)))) (And.intro (And.intro (And.intro un75 (And.intro el75 ap75)) (And.intro sz77 (And.intro ag77 zv77))) (And.intro (And.intro fl77_0 (And.intro fl77_1 fl77_2)) (And.intro pl77 (And.intro okf146 sz63)))))
theorem eqTypeS_of (xs : List Ty) (hx : okLs (2^20) okTy xs) (H : ∀ t ∈ xs, FnP Try.prog 146 [agT (eTy t), agT (eTy t)] (bT true)) : FnS Try.prog 181 [] [slT eTy xs, slT eTy xs] [] (bT true) := by
  refine FnS.go [0, 1, 4, 5, 10, 14, 26] [] Try.func181 rfl (fun kt kz => ?_)
  have fcx := fc181SType
  simp only [Try.f181]
  have hx1 := hx.1
  refine Run (cast_succ) ?_; repeat' (first | (with_reducible exact True.intro) | (with_reducible refine Lf.mk ?_ ?_) | (with_reducible intro hb))
  refine Trn (α := Nat) [4, 5, 11, 12, 13, 14, 15, 16, 17, 18, 19, 20, 21, 22, 23, 24, 25, 26] (fun i => [(5, iT i)]) (fun i => []) (fun i => i ≤ xs.length) (fun i => xs.length - i) (0) (Nat.zero_le _) (cast_succ) ?_; intro lx hI; obtain i := lx; (try simp only [List.nil_append, List.cons_append] at hI ⊢)
  refine Run (@eTy_eta) ?_; repeat' (first | (with_reducible exact True.intro) | (with_reducible refine Lf.mk ?_ ?_) | (with_reducible intro hb))
  · refine Cal (@eTy_eta) (H _ (List.getElem_mem hb)) ?_
    refine Run (@eTy_eta) ?_; repeat' (first | (with_reducible exact True.intro) | (with_reducible refine Lf.mk ?_ ?_) | (with_reducible intro hb))
    exact Nxt (cast_succ) (lx + 1) (by omega) (by first | omega | (simp; omega))

theorem eqType_ok (t : Ty) (h : okTy (2^20) t) : FnP Try.prog 146 [agT (eTy t), agT (eTy t)] (bT true) := eqType_of t h (eqTypeS_of t.args ((okTy_iff.1 h).2.2) (fun u hu => eqType_ok u (((okTy_iff.1 h).2.2).2 u hu)))
termination_by SizeOf.sizeOf t
decreasing_by all_goals first | exact Ty.mem hu | exact Val.mem hu | exact Tm.mem hu | exact Pl.mem hu | exact Hd.memP hu | exact Hd.memQ hu | exact Cmp.memH _
theorem eqTypeS_ok (xs : List Ty) (h : okLs (2^20) okTy xs) : FnP Try.prog 181 [slT eTy xs, slT eTy xs] (bT true) := eqTypeS_of xs h (fun t ht => eqType_ok t (h.2 t ht))
theorem toType_ok (t : Ty) (h : okTy (2^20) t) : FnP Try.prog 142 [agT (eTy t)] (agT (eTy t)) := (toType_o t h 1000 1002 (by decide)).tree (by simp -dsimp (maxSteps := 2000000) (disch := omega) only [vs, ↓Option.bind_some, ev1, ofV, scalarB, Kn, Kb, calleeOf, evLoad, ptr, evField, evFieldAddr, shift, ↓pt_at, ↓pt_at1, evExtract, evBin, evLen, evConv, cellsT, noS, Cell.has, Cell.hasN, Cell.anyN, toIV, toIV0, toIVs, ownC, srcM, Ob.own, Ob.esz, allSc, nilK, lenC, ownCell, isPtr, ptrNil, frzO, Cell.frz, Cell.keys, ↓reduceIte, reduceCtorEq, Nat.reduceEqDiff, Nat.reduceBEq, Nat.reduceBNe, Nat.reduceAdd, Nat.reduceMul, Nat.reduceSub, Nat.reduceLT, Nat.reduceLeDiff, Nat.reducePow, Int.reduceLT, Int.reduceLE, Int.reduceEq, Int.reduceNe, quietB, Nat.reduceMod, Int.reduceToNat, ne_eq, eq_self, exists_const, evBytes, byRow, byL, byStr_size, ifsz, ByteArray.size_append, Option.none_or, Option.some_or, evLook, keyD, eTy_eta])
theorem toTypeS_ok (xs : List Ty) (h : okLs (2^20) okTy xs) : FnP Try.prog 178 [slT eTy xs] (slT eTy xs) := (toTypeS_o xs h 1000).tree (by simp -dsimp (maxSteps := 2000000) (disch := omega) only [vs, ↓Option.bind_some, ev1, ofV, scalarB, Kn, Kb, calleeOf, evLoad, ptr, evField, evFieldAddr, shift, ↓pt_at, ↓pt_at1, evExtract, evBin, evLen, evConv, cellsT, noS, Cell.has, Cell.hasN, Cell.anyN, toIV, toIV0, toIVs, ownC, srcM, Ob.own, Ob.esz, allSc, nilK, lenC, ownCell, isPtr, ptrNil, frzO, Cell.frz, Cell.keys, ↓reduceIte, reduceCtorEq, Nat.reduceEqDiff, Nat.reduceBEq, Nat.reduceBNe, Nat.reduceAdd, Nat.reduceMul, Nat.reduceSub, Nat.reduceLT, Nat.reduceLeDiff, Nat.reducePow, Int.reduceLT, Int.reduceLE, Int.reduceEq, Int.reduceNe, quietB, Nat.reduceMod, Int.reduceToNat, ne_eq, eq_self, exists_const, evBytes, byRow, byL, byStr_size, ifsz, ByteArray.size_append, Option.none_or, Option.some_or, evLook, keyD])

end Go.VC.T
/- Data (Term): how they are measured, copied and compared. -/
namespace Go.VC.T
open Go Go.VC Go.Proofs Go.VC.F
set_option linter.unusedSimpArgs false
set_option linter.unusedVariables false
set_option linter.defProp false
set_option maxRecDepth 100000
set_option maxHeartbeats 2000000
def fc84STerm := (And.intro (And.intro (And.intro (And.intro (And.intro sz3 ag3) (And.intro zv3 (And.intro un3 sz4))) (And.intro (And.intro ag4 (And.intro zv4 un4)) (And.intro sz9 (And.intro ag9 zv9)))) (And.intro (And.intro (And.intro un9 (And.intro sz63 ag63)) (And.intro zv63 (And.intro sb63 un63))) (And.intro (And.intro el63 (And.intro ap63 sz66)) (And.intro ag66 (And.intro zv66 fl66_0))))) (And.intro (And.intro (And.intro (And.intro fl66_1 (And.intro fl66_2 pl66)) (And.intro sz67 (And.intro ag67 zv67))) (And.intro (And.intro sb67 (And.intro un67 el67)) (And.intro ap67 (And.intro sz69 ag69)))) (And.intro (And.intro (And.intro zv69 (And.intro fl69_0 fl69_1)) (And.intro fl69_2 (And.intro fl69_3 fl69_4))) (And.intro (And.intro fl69_5 (And.intro pl69 okf85)) (And.intro okf138 (And.intro okf139 sz64))))))
theorem szTerm_of (t : Tm) (h : okTm (2^48) t) (H0 : ∀ left : Int, 0 ≤ left ∧ left ≤ 2^20 → FnP Try.prog 85 [slT eTm t.args, iT left] (iT (szR (zL zTm t.args) left))) (left : Int) (hl : 0 ≤ left ∧ left ≤ 2^20) : FnS Try.prog 84 [] [agT (eTm t), iT left] [] (iT (szR (zTm t) left)) := by
  refine FnS.go [0, 1, 2, 4, 11, 17, 23, 29] [] Try.func84 rfl (fun kt kz => ?_)
  have fcx := fc84STerm
  simp only [Try.f84]
  have ho := okTm_iff.1 h
  have hs1 : t.name.size = zS t.name := rfl
  have hw1 : zS t.name ≤ 2^48 := ho.2.1
  refine Run ((And.intro (And.intro @eTm_eta @eTy_eta) (And.intro @hs1 @szR_add))) ?_; repeat' (first | (with_reducible exact True.intro) | (with_reducible refine Lf.mk ?_ ?_) | (with_reducible intro hb))
  · congr 4; have s2 := szR_spec (zTm t) left; rw [zTm_eta] at s2 ⊢; omega
  · skip
    have e : left - (zS t.name : Int) = szR (zS t.name) left := by have s3 := szR_spec (zS t.name) left; omega
    rw [e] at hb ⊢
    refine Cal ((And.intro (And.intro @eTm_eta @eTy_eta) (And.intro @hs1 @szR_add))) (szType_ok _ ho.2.2.2.1 _ ⟨(by assumption), by have := szR_le (n := zS t.name) hl.1; omega⟩) ?_
    have hz := szR_le (n := zS t.name + zTy t.ty) hl.1
    refine Run ((And.intro (And.intro @eTm_eta @eTy_eta) (And.intro @hs1 @szR_add))) ?_; repeat' (first | (with_reducible exact True.intro) | (with_reducible refine Lf.mk ?_ ?_) | (with_reducible intro hb))
    · congr 4; have s1 := szR_spec (zS t.name + zTy t.ty) left; have s2 := szR_spec (zTm t) left; rw [zTm_eta] at s2 ⊢; omega
    · skip
      refine Cal ((And.intro (And.intro @eTm_eta @eTy_eta) (And.intro @hs1 @szR_add))) (szStringS_ok _ ho.2.2.2.2.1 _ ⟨(by assumption), by have := szR_le (n := zS t.name + zTy t.ty) hl.1; omega⟩) ?_
      have hz := szR_le (n := zS t.name + zTy t.ty + zSL t.labels) hl.1
      refine Run ((And.intro (And.intro @eTm_eta @eTy_eta) (And.intro @hs1 @szR_add))) ?_; repeat' (first | (with_reducible exact True.intro) | (with_reducible refine Lf.mk ?_ ?_) | (with_reducible intro hb))
      · congr 4; have s1 := szR_spec (zS t.name + zTy t.ty + zSL t.labels) left; have s2 := szR_spec (zTm t) left; rw [zTm_eta] at s2 ⊢; omega
      · skip
        refine Cal ((And.intro (And.intro @eTm_eta @eTy_eta) (And.intro @hs1 @szR_add))) (H0 _ ⟨(by assumption), by have := szR_le (n := zS t.name + zTy t.ty + zSL t.labels) hl.1; omega⟩) ?_
        have hz := szR_le (n := zS t.name + zTy t.ty + zSL t.labels + zL zTm t.args) hl.1
        refine Run ((And.intro (And.intro @eTm_eta @eTy_eta) (And.intro @hs1 @szR_add))) ?_; repeat' (first | (with_reducible exact True.intro) | (with_reducible refine Lf.mk ?_ ?_) | (with_reducible intro hb))
        · congr 4; have s1 := szR_spec (zS t.name + zTy t.ty + zSL t.labels + zL zTm t.args) left; have s2 := szR_spec (zTm t) left; rw [zTm_eta] at s2 ⊢; omega
        · skip
          rw [zTm_eta]
def fc85STerm := (And.intro (And.intro (And.intro (And.intro sz3 (And.intro ag3 zv3)) (And.intro (And.intro un3 sz4) (And.intro ag4 zv4))) (And.intro (And.intro un4 (And.intro sz67 ag67)) (And.intro (And.intro zv67 sb67) (And.intro un67 el67)))) (And.intro (And.intro (And.intro ap67 (And.intro sz69 ag69)) (And.intro (And.intro zv69 fl69_0) (And.intro fl69_1 fl69_2))) (And.intro (And.intro (And.intro fl69_3 fl69_4) (And.intro fl69_5 pl69)) (And.intro (And.intro okf84 sz9) (And.intro sz66 sz63)))))
theorem szTermS_of (xs : List Tm) (hx : okLs (2^48) okTm xs) (H : ∀ t ∈ xs, ∀ left : Int, 0 ≤ left ∧ left ≤ 2^20 → FnP Try.prog 84 [agT (eTm t), iT left] (iT (szR (zTm t) left))) (left : Int) (hl : 0 ≤ left ∧ left ≤ 2^20) : FnS Try.prog 85 [] [slT eTm xs, iT left] [] (iT (szR (zL zTm xs) left)) := by
  refine FnS.go [0, 1, 4, 5, 11, 15, 25] [] Try.func85 rfl (fun kt kz => ?_)
  have fcx := fc85STerm
  simp only [Try.f85]
  have hx1 := hx.1
  refine Run (cast_succ) ?_; repeat' (first | (with_reducible exact True.intro) | (with_reducible refine Lf.mk ?_ ?_) | (with_reducible intro hb))
  · simp only [szR_nil hb zL_len]
  · rw [szR_sub hb]
    have hb2 := szR_sub hb ▸ hb
    refine Trn (α := Nat) [1, 4, 5, 12, 13, 14, 15, 16, 17, 18, 19, 20, 21, 22, 23, 24, 25] (fun i => [(5, iT i), (1, iT (szR (zT zTm xs i) left))]) (fun i => []) (fun i => i ≤ xs.length ∧ 0 ≤ szR (zT zTm xs i) left) (fun i => xs.length - i) (0) (⟨Nat.zero_le _, by rw [zT_zero]; exact hb2⟩) ((zT_zero (z := zTm) (l := xs))) ?_; intro lx hI; obtain i := lx; (try simp only [List.nil_append, List.cons_append] at hI ⊢)
    have hz := szR_le (n := zT zTm xs lx) hl.1
    by_cases hlt : lx < xs.length
    · have e : szR (zTm xs[lx]) (szR (zT zTm xs lx) left) = szR (zT zTm xs (lx + 1)) left := by rw [zT_succ hlt, ← szR_add]
      refine Run ((And.intro @eTm_eta @eTy_eta)) ?_; repeat' (first | (with_reducible exact True.intro) | (with_reducible refine Lf.mk ?_ ?_) | (with_reducible intro hb))
      · refine Cal ((And.intro @eTm_eta @eTy_eta)) (H _ (List.getElem_mem hlt) _ ⟨hI.2, by omega⟩) ?_
        refine Run (cast_succ) ?_; repeat' (first | (with_reducible exact True.intro) | (with_reducible refine Lf.mk ?_ ?_) | (with_reducible intro hb))
        · rw [e] at hb
          rw [szR_neg hb zT_le]
        · rw [e] at hb
          exact Nxt (@e) (lx + 1) (⟨by omega, hb⟩) (by first | omega | (simp; omega))
      · omega
    · refine Run (cast_succ) ?_; repeat' (first | (with_reducible exact True.intro) | (with_reducible refine Lf.mk ?_ ?_) | (with_reducible intro hb))
      · omega
      · rw [zT_all (by omega)]

theorem szTerm_ok (t : Tm) (h : okTm (2^48) t) (left : Int) (hl : 0 ≤ left ∧ left ≤ 2^20) : FnP Try.prog 84 [agT (eTm t), iT left] (iT (szR (zTm t) left)) := szTerm_of t h (fun left hl => szTermS_of t.args ((okTm_iff.1 h).2.2.2.2.2) (fun u hu left hl => szTerm_ok u (((okTm_iff.1 h).2.2.2.2.2).2 u hu) left hl) left hl) left hl
termination_by SizeOf.sizeOf t
decreasing_by all_goals first | exact Ty.mem hu | exact Val.mem hu | exact Tm.mem hu | exact Pl.mem hu | exact Hd.memP hu | exact Hd.memQ hu | exact Cmp.memH _
theorem szTermS_ok (xs : List Tm) (h : okLs (2^48) okTm xs) (left : Int) (hl : 0 ≤ left ∧ left ≤ 2^20) : FnP Try.prog 85 [slT eTm xs, iT left] (iT (szR (zL zTm xs) left)) := szTermS_of xs h (fun t ht left hl => szTerm_ok t (h.2 t ht) left hl) left hl
def fc90STerm := (And.intro (And.intro (And.intro (And.intro (And.intro (And.intro sz3 ag3) (And.intro zv3 un3)) (And.intro (And.intro sz9 ag9) (And.intro zv9 un9))) (And.intro (And.intro (And.intro sz63 ag63) (And.intro zv63 sb63)) (And.intro (And.intro un63 el63) (And.intro ap63 (And.intro sz66 ag66))))) (And.intro (And.intro (And.intro (And.intro zv66 fl66_0) (And.intro fl66_1 fl66_2)) (And.intro (And.intro pl66 sz67) (And.intro ag67 zv67))) (And.intro (And.intro (And.intro sb67 un67) (And.intro el67 ap67)) (And.intro (And.intro sz69 ag69) (And.intro zv69 (And.intro fl69_0 fl69_1)))))) (And.intro (And.intro (And.intro (And.intro (And.intro fl69_2 fl69_3) (And.intro fl69_4 fl69_5)) (And.intro (And.intro pl69 sz77) (And.intro ag77 zv77))) (And.intro (And.intro (And.intro fl77_0 fl77_1) (And.intro fl77_2 pl77)) (And.intro (And.intro sz78 ag78) (And.intro zv78 (And.intro sb78 un78))))) (And.intro (And.intro (And.intro (And.intro el78 ap78) (And.intro sz80 ag80)) (And.intro (And.intro zv80 fl80_0) (And.intro fl80_1 fl80_2))) (And.intro (And.intro (And.intro fl80_3 fl80_4) (And.intro fl80_5 pl80)) (And.intro (And.intro okf91 okf142) (And.intro okf143 (And.intro sz64 sz75)))))))
theorem toTerm_w (t : Tm) (h : okTm (2^20) t) (H0 : ∀ q : Nat, FnS Try.prog 91 [] [slT eTm t.args] [(q, .row t.args.length (t.args.flatMap eTm))] (.c (.os q t.args.length))) : FnS Try.prog 90 [] [agT (eTm t)] [(1000, .row t.ty.labels.length (t.ty.labels.flatMap eS)), (1002, .row t.ty.args.length (t.ty.args.flatMap eTy)), (1004, .row t.labels.length (t.labels.flatMap eS)), (1006, .row t.args.length (t.args.flatMap eTm))] (.ag [.im (.sc (.int .i64 t.kind)), .im (.sc (.string t.name)), .im (.sc (.int .i64 t.n)), .im (.sc (.int .i64 t.ty.kind)), .os 1000 t.ty.labels.length, .os 1002 t.ty.args.length, .os 1004 t.labels.length, .os 1006 t.args.length]) := by
  refine FnS.go [0, 1, 2, 3] [] Try.func90 rfl (fun kt kz => ?_)
  have fcx := fc90STerm
  simp only [Try.f90]
  have ho := okTm_iff.1 h
  refine Run ((And.intro @eTm_eta @eTy_eta)) ?_; repeat' (first | (with_reducible exact True.intro) | (with_reducible refine Lf.mk ?_ ?_) | (with_reducible intro hb))
  refine CalI ((And.intro @eTm_eta @eTy_eta)) (toType_o _ ho.2.2.2.1 1000 1002 (by decide)) ?_
  refine Run ((And.intro @eTm_eta @eTy_eta)) ?_; repeat' (first | (with_reducible exact True.intro) | (with_reducible refine Lf.mk ?_ ?_) | (with_reducible intro hb))
  refine CalI ((And.intro @eTm_eta @eTy_eta)) (toStringS_o _ ho.2.2.2.2.1 1004) ?_
  refine Run ((And.intro @eTm_eta @eTy_eta)) ?_; repeat' (first | (with_reducible exact True.intro) | (with_reducible refine Lf.mk ?_ ?_) | (with_reducible intro hb))
  refine CalI ((And.intro @eTm_eta @eTy_eta)) (H0 1006) ?_
  refine Run ((And.intro @eTm_eta @eTy_eta)) ?_; repeat' (first | (with_reducible exact True.intro) | (with_reducible refine Lf.mk ?_ ?_) | (with_reducible intro hb))

theorem toTerm_q (t : Tm) (h : okTm (2^20) t) (H0 : ∀ q : Nat, FnS Try.prog 91 [] [slT eTm t.args] [(q, .row t.args.length (t.args.flatMap eTm))] (.c (.os q t.args.length))) : ∀ q0 q1 q2 q3 : Nat, [q0, q1, q2, q3].Nodup → FnS Try.prog 90 [] [agT (eTm t)] [(q0, .row t.ty.labels.length (t.ty.labels.flatMap eS)), (q1, .row t.ty.args.length (t.ty.args.flatMap eTy)), (q2, .row t.labels.length (t.labels.flatMap eS)), (q3, .row t.args.length (t.args.flatMap eTm))] (.ag [.im (.sc (.int .i64 t.kind)), .im (.sc (.string t.name)), .im (.sc (.int .i64 t.n)), .im (.sc (.int .i64 t.ty.kind)), .os q0 t.ty.labels.length, .os q1 t.ty.args.length, .os q2 t.labels.length, .os q3 t.args.length]) := by
  intro q0 q1 q2 q3 hq
  obtain ⟨p, hp⟩ := pml [1000, 1002, 1004, 1006] [q0, q1, q2, q3] (by decide) hq rfl
  simp only [List.map_cons, List.map_nil, List.cons.injEq, and_true] at hp
  refine ((toTerm_w t h H0).rows.pm p).as ?_ ?_ <;> simp [rowS, rowO, renS, Ob.ren, TV.ren, renL, Cell.ren, hp]
def fc91STerm := (And.intro (And.intro (And.intro (And.intro (And.intro sz3 ag3) (And.intro zv3 (And.intro un3 sz4))) (And.intro (And.intro ag4 (And.intro zv4 un4)) (And.intro sz67 (And.intro ag67 zv67)))) (And.intro (And.intro (And.intro sb67 (And.intro un67 el67)) (And.intro ap67 (And.intro sz69 ag69))) (And.intro (And.intro zv69 (And.intro fl69_0 fl69_1)) (And.intro fl69_2 (And.intro fl69_3 fl69_4))))) (And.intro (And.intro (And.intro (And.intro fl69_5 (And.intro pl69 sz78)) (And.intro ag78 (And.intro zv78 sb78))) (And.intro (And.intro un78 (And.intro el78 ap78)) (And.intro sz80 (And.intro ag80 zv80)))) (And.intro (And.intro (And.intro fl80_0 (And.intro fl80_1 fl80_2)) (And.intro fl80_3 (And.intro fl80_4 fl80_5))) (And.intro (And.intro pl80 (And.intro okf90 sz9)) (And.intro sz66 (And.intro sz63 sz77))))))
theorem toTermS_w (xs : List Tm) (hx : okLs (2^20) okTm xs) (H : ∀ t ∈ xs, ∀ q0 q1 q2 q3 : Nat, [q0, q1, q2, q3].Nodup → FnS Try.prog 90 [] [agT (eTm t)] [(q0, .row t.ty.labels.length (t.ty.labels.flatMap eS)), (q1, .row t.ty.args.length (t.ty.args.flatMap eTy)), (q2, .row t.labels.length (t.labels.flatMap eS)), (q3, .row t.args.length (t.args.flatMap eTm))] (.ag [.im (.sc (.int .i64 t.kind)), .im (.sc (.string t.name)), .im (.sc (.int .i64 t.n)), .im (.sc (.int .i64 t.ty.kind)), .os q0 t.ty.labels.length, .os q1 t.ty.args.length, .os q2 t.labels.length, .os q3 t.args.length])) : FnS Try.prog 91 [] [slT eTm xs] [(14, .vec 80 8 xs.length (xs.flatMap eTm) true)] (.c (.os 14 xs.length)) := by
  refine FnS.go [0, 2, 3, 4, 11] [] Try.func91 rfl (fun kt kz => ?_)
  have fcx := fc91STerm
  simp only [Try.f91]
  have hx1 := hx.1
  refine Run (cast_succ) ?_; repeat' (first | (with_reducible exact True.intro) | (with_reducible refine Lf.mk ?_ ?_) | (with_reducible intro hb))
  refine Trn (α := Nat) [4, 8, 9, 10, 11, 12, 13, 14, 15, 16, 17, 18, 19, 20, 21] (fun i => [(4, iT i), (3, .c (.os 14 xs.length))]) (fun i => [(14, .vec 80 8 xs.length (filled eTm [.sc (.int .i64 0), .sc (.string ⟨#[]⟩), .sc (.int .i64 0), .sc (.int .i64 0), .sl 0 [], .sl 0 [], .sl 0 [], .sl 0 []] xs i) true)]) (fun i => i ≤ xs.length) (fun i => xs.length - i) (0) (Nat.zero_le _) (cast_succ) ?_; intro lx hI; obtain i := lx; (try simp only [List.nil_append, List.cons_append] at hI ⊢)
  refine Run ((And.intro @eTm_eta @eTy_eta)) ?_; repeat' (first | (with_reducible exact True.intro) | (with_reducible refine Lf.mk ?_ ?_) | (with_reducible intro hb))
  · refine CalI ((And.intro @eTm_eta @eTy_eta)) (H _ (List.getElem_mem hb) 1000 1002 1004 1006 (by decide)) ?_
    refine Run ((And.intro @eTm_eta @eTy_eta)) ?_; repeat' (first | (with_reducible exact True.intro) | (with_reducible refine Lf.mk ?_ ?_) | (with_reducible intro hb))
    have hs := filled_step' (E := eTm) (zs := [.sc (.int .i64 0), .sc (.string ⟨#[]⟩), .sc (.int .i64 0), .sc (.int .i64 0), .sl 0 [], .sl 0 [], .sl 0 [], .sl 0 []]) hb
    simp only [eTm_eta, eTy_eta, setL_st, stL_one, slI] at hs
    exact Nxt (@hs) (lx + 1) (by omega) (by first | omega | (simp; omega))

theorem toTermS_q (xs : List Tm) (hx : okLs (2^20) okTm xs) (H : ∀ t ∈ xs, ∀ q0 q1 q2 q3 : Nat, [q0, q1, q2, q3].Nodup → FnS Try.prog 90 [] [agT (eTm t)] [(q0, .row t.ty.labels.length (t.ty.labels.flatMap eS)), (q1, .row t.ty.args.length (t.ty.args.flatMap eTy)), (q2, .row t.labels.length (t.labels.flatMap eS)), (q3, .row t.args.length (t.args.flatMap eTm))] (.ag [.im (.sc (.int .i64 t.kind)), .im (.sc (.string t.name)), .im (.sc (.int .i64 t.n)), .im (.sc (.int .i64 t.ty.kind)), .os q0 t.ty.labels.length, .os q1 t.ty.args.length, .os q2 t.labels.length, .os q3 t.args.length])) (q : Nat) : FnS Try.prog 91 [] [slT eTm xs] [(q, .row xs.length (xs.flatMap eTm))] (.c (.os q xs.length)) := by
  obtain ⟨p, hp⟩ := pm1 14 q
  refine ((toTermS_w xs hx H).rows.pm p).as ?_ ?_ <;> simp [rowS, rowO, renS, Ob.ren, TV.ren, Cell.ren, hp]

theorem toTerm_o (t : Tm) (h : okTm (2^20) t) : ∀ q0 q1 q2 q3 : Nat, [q0, q1, q2, q3].Nodup → FnS Try.prog 90 [] [agT (eTm t)] [(q0, .row t.ty.labels.length (t.ty.labels.flatMap eS)), (q1, .row t.ty.args.length (t.ty.args.flatMap eTy)), (q2, .row t.labels.length (t.labels.flatMap eS)), (q3, .row t.args.length (t.args.flatMap eTm))] (.ag [.im (.sc (.int .i64 t.kind)), .im (.sc (.string t.name)), .im (.sc (.int .i64 t.n)), .im (.sc (.int .i64 t.ty.kind)), .os q0 t.ty.labels.length, .os q1 t.ty.args.length, .os q2 t.labels.length, .os q3 t.args.length]) := toTerm_q t h (fun q => toTermS_q t.args ((okTm_iff.1 h).2.2.2.2.2) (fun u hu => toTerm_o u (((okTm_iff.1 h).2.2.2.2.2).2 u hu)) q)
termination_by SizeOf.sizeOf t
decreasing_by all_goals first | exact Ty.mem hu | exact Val.mem hu | exact Tm.mem hu | exact Pl.mem hu | exact Hd.memP hu | exact Hd.memQ hu | exact Cmp.memH _
theorem toTermS_o (xs : List Tm) (h : okLs (2^20) okTm xs) (q : Nat) : FnS Try.prog 91 [] [slT eTm xs] [(q, .row xs.length (xs.flatMap eTm))] (.c (.os q xs.length)) := toTermS_q xs h (fun t ht => toTerm_o t (h.2 t ht)) q
def fc94STerm := (And.intro (And.intro (And.intro (And.intro (And.intro sz3 ag3) (And.intro zv3 (And.intro un3 sz4))) (And.intro (And.intro ag4 (And.intro zv4 un4)) (And.intro sz9 (And.intro ag9 zv9)))) (And.intro (And.intro (And.intro un9 (And.intro sz63 ag63)) (And.intro zv63 (And.intro sb63 un63))) (And.intro (And.intro el63 (And.intro ap63 sz77)) (And.intro ag77 (And.intro zv77 fl77_0))))) (And.intro (And.intro (And.intro (And.intro fl77_1 (And.intro fl77_2 pl77)) (And.intro sz78 (And.intro ag78 zv78))) (And.intro (And.intro sb78 (And.intro un78 el78)) (And.intro ap78 (And.intro sz80 ag80)))) (And.intro (And.intro (And.intro zv80 (And.intro fl80_0 fl80_1)) (And.intro fl80_2 (And.intro fl80_3 fl80_4))) (And.intro (And.intro fl80_5 (And.intro pl80 okf95)) (And.intro okf146 (And.intro okf147 sz75))))))
theorem eqTerm_of (t : Tm) (h : okTm (2^20) t) (H0 : FnP Try.prog 95 [slT eTm t.args, slT eTm t.args] (bT true)) : FnS Try.prog 94 [] [agT (eTm t), agT (eTm t)] [] (bT true) := by
  refine FnS.go [0, 1, 2, 3, 4, 9, 14, 19, 25, 31, 37] [] Try.func94 rfl (fun kt kz => ?_)
  have fcx := fc94STerm
  simp only [Try.f94]
  have ho := okTm_iff.1 h
  refine Run ((And.intro @eTm_eta @eTy_eta)) ?_; repeat' (first | (with_reducible exact True.intro) | (with_reducible refine Lf.mk ?_ ?_) | (with_reducible intro hb))
  refine Cal ((And.intro @eTm_eta @eTy_eta)) (eqType_ok _ ho.2.2.2.1) ?_
  refine Run ((And.intro @eTm_eta @eTy_eta)) ?_; repeat' (first | (with_reducible exact True.intro) | (with_reducible refine Lf.mk ?_ ?_) | (with_reducible intro hb))
  refine Cal ((And.intro @eTm_eta @eTy_eta)) (eqStringS_rf _ ho.2.2.2.2.1) ?_
  refine Run ((And.intro @eTm_eta @eTy_eta)) ?_; repeat' (first | (with_reducible exact True.intro) | (with_reducible refine Lf.mk ?_ ?_) | (with_reducible intro hb))
  refine Cal ((And.intro @eTm_eta @eTy_eta)) (H0) ?_
  refine Run ((And.intro @eTm_eta @eTy_eta)) ?_; repeat' (first | (with_reducible exact True.intro) | (with_reducible refine Lf.mk ?_ ?_) | (with_reducible intro hb))
def fc95STerm := (And.intro (And.intro (And.intro (And.intro sz3 (And.intro ag3 zv3)) (And.intro (And.intro un3 sz4) (And.intro ag4 zv4))) (And.intro (And.intro un4 (And.intro sz78 ag78)) (And.intro (And.intro zv78 sb78) (And.intro un78 el78)))) (And.intro (And.intro (And.intro ap78 (And.intro sz80 ag80)) (And.intro (And.intro zv80 fl80_0) (And.intro fl80_1 fl80_2))) (And.intro (And.intro (And.intro fl80_3 fl80_4) (And.intro fl80_5 pl80)) (And.intro (And.intro okf94 sz9) (And.intro sz77 sz63)))))
theorem eqTermS_of (xs : List Tm) (hx : okLs (2^20) okTm xs) (H : ∀ t ∈ xs, FnP Try.prog 94 [agT (eTm t), agT (eTm t)] (bT true)) : FnS Try.prog 95 [] [slT eTm xs, slT eTm xs] [] (bT true) := by
  refine FnS.go [0, 1, 4, 5, 10, 14, 26] [] Try.func95 rfl (fun kt kz => ?_)
  have fcx := fc95STerm
  simp only [Try.f95]
  have hx1 := hx.1
  refine Run (cast_succ) ?_; repeat' (first | (with_reducible exact True.intro) | (with_reducible refine Lf.mk ?_ ?_) | (with_reducible intro hb))
  refine Trn (α := Nat) [4, 5, 11, 12, 13, 14, 15, 16, 17, 18, 19, 20, 21, 22, 23, 24, 25, 26] (fun i => [(5, iT i)]) (fun i => []) (fun i => i ≤ xs.length) (fun i => xs.length - i) (0) (Nat.zero_le _) (cast_succ) ?_; intro lx hI; obtain i := lx; (try simp only [List.nil_append, List.cons_append] at hI ⊢)
  refine Run ((And.intro @eTm_eta @eTy_eta)) ?_; repeat' (first | (with_reducible exact True.intro) | (with_reducible refine Lf.mk ?_ ?_) | (with_reducible intro hb))
  · refine Cal ((And.intro @eTm_eta @eTy_eta)) (H _ (List.getElem_mem hb)) ?_
    refine Run ((And.intro @eTm_eta @eTy_eta)) ?_; repeat' (first | (with_reducible exact True.intro) | (with_reducible refine Lf.mk ?_ ?_) | (with_reducible intro hb))
    exact Nxt (cast_succ) (lx + 1) (by omega) (by first | omega | (simp; omega))

theorem eqTerm_ok (t : Tm) (h : okTm (2^20) t) : FnP Try.prog 94 [agT (eTm t), agT (eTm t)] (bT true) := eqTerm_of t h (eqTermS_of t.args ((okTm_iff.1 h).2.2.2.2.2) (fun u hu => eqTerm_ok u (((okTm_iff.1 h).2.2.2.2.2).2 u hu)))
termination_by SizeOf.sizeOf t
decreasing_by all_goals first | exact Ty.mem hu | exact Val.mem hu | exact Tm.mem hu | exact Pl.mem hu | exact Hd.memP hu | exact Hd.memQ hu | exact Cmp.memH _
theorem eqTermS_ok (xs : List Tm) (h : okLs (2^20) okTm xs) : FnP Try.prog 95 [slT eTm xs, slT eTm xs] (bT true) := eqTermS_of xs h (fun t ht => eqTerm_ok t (h.2 t ht))
theorem toTerm_ok (t : Tm) (h : okTm (2^20) t) : FnP Try.prog 90 [agT (eTm t)] (agT (eTm t)) := (toTerm_o t h 1000 1002 1004 1006 (by decide)).tree (by simp -dsimp (maxSteps := 2000000) (disch := omega) only [vs, ↓Option.bind_some, ev1, ofV, scalarB, Kn, Kb, calleeOf, evLoad, ptr, evField, evFieldAddr, shift, ↓pt_at, ↓pt_at1, evExtract, evBin, evLen, evConv, cellsT, noS, Cell.has, Cell.hasN, Cell.anyN, toIV, toIV0, toIVs, ownC, srcM, Ob.own, Ob.esz, allSc, nilK, lenC, ownCell, isPtr, ptrNil, frzO, Cell.frz, Cell.keys, ↓reduceIte, reduceCtorEq, Nat.reduceEqDiff, Nat.reduceBEq, Nat.reduceBNe, Nat.reduceAdd, Nat.reduceMul, Nat.reduceSub, Nat.reduceLT, Nat.reduceLeDiff, Nat.reducePow, Int.reduceLT, Int.reduceLE, Int.reduceEq, Int.reduceNe, quietB, Nat.reduceMod, Int.reduceToNat, ne_eq, eq_self, exists_const, evBytes, byRow, byL, byStr_size, ifsz, ByteArray.size_append, Option.none_or, Option.some_or, evLook, keyD, eTm_eta, eTy_eta])
theorem toTermS_ok (xs : List Tm) (h : okLs (2^20) okTm xs) : FnP Try.prog 91 [slT eTm xs] (slT eTm xs) := (toTermS_o xs h 1000).tree (by simp -dsimp (maxSteps := 2000000) (disch := omega) only [vs, ↓Option.bind_some, ev1, ofV, scalarB, Kn, Kb, calleeOf, evLoad, ptr, evField, evFieldAddr, shift, ↓pt_at, ↓pt_at1, evExtract, evBin, evLen, evConv, cellsT, noS, Cell.has, Cell.hasN, Cell.anyN, toIV, toIV0, toIVs, ownC, srcM, Ob.own, Ob.esz, allSc, nilK, lenC, ownCell, isPtr, ptrNil, frzO, Cell.frz, Cell.keys, ↓reduceIte, reduceCtorEq, Nat.reduceEqDiff, Nat.reduceBEq, Nat.reduceBNe, Nat.reduceAdd, Nat.reduceMul, Nat.reduceSub, Nat.reduceLT, Nat.reduceLeDiff, Nat.reducePow, Int.reduceLT, Int.reduceLE, Int.reduceEq, Int.reduceNe, quietB, Nat.reduceMod, Int.reduceToNat, ne_eq, eq_self, exists_const, evBytes, byRow, byL, byStr_size, ifsz, ByteArray.size_append, Option.none_or, Option.some_or, evLook, keyD])

end Go.VC.T
/- Conjuncts of a condition. -/
namespace Go.VC.T
open Go Go.VC Go.Proofs Go.VC.F
set_option linter.unusedSimpArgs false
set_option linter.unusedVariables false
set_option linter.defProp false
set_option maxRecDepth 100000
set_option maxHeartbeats 2000000
def fc180A32 := (And.intro (And.intro (And.intro (And.intro (And.intro sz3 ag3) (And.intro zv3 un3)) (And.intro (And.intro sz4 ag4) (And.intro zv4 un4))) (And.intro (And.intro (And.intro sz9 ag9) (And.intro zv9 un9)) (And.intro (And.intro sz78 ag78) (And.intro zv78 sb78)))) (And.intro (And.intro (And.intro (And.intro un78 el78) (And.intro ap78 sz80)) (And.intro (And.intro ag80 zv80) (And.intro fl80_0 fl80_1))) (And.intro (And.intro (And.intro fl80_2 fl80_3) (And.intro fl80_4 fl80_5)) (And.intro (And.intro pl80 okf180) (And.intro sz77 sz63)))))
theorem conj_of (t : Tm) (ht : okTm (2^20) t) (xs : List Tm) (hx : xs.length + (partsT t).length ≤ 2^20) (H : ∀ u ∈ t.args, ∀ ys : List Tm, ys.length + (partsT u).length ≤ 2^20 → FnS Try.prog 180 [(1, .vec 80 8 ys.length (ys.flatMap eTm) false)] [agT (eTm u), .c (.os 1 ys.length)] [(1, .vec 80 8 (ys.length + (partsT u).length) (ys.flatMap eTm ++ (partsT u).flatMap eTm) false)] (.c (.os 1 (ys.length + (partsT u).length)))) : FnS Try.prog 180 [(1, .vec 80 8 xs.length (xs.flatMap eTm) false)] [agT (eTm t), .c (.os 1 xs.length)] [(1, .vec 80 8 (xs.length + (partsT t).length) (xs.flatMap eTm ++ (partsT t).flatMap eTm) false)] (.c (.os 1 (xs.length + (partsT t).length))) := by
  refine FnS.go [0, 1, 2, 4, 18] [] Try.func180 rfl (fun kt kz => ?_)
  have fcx := fc180A32
  simp only [Try.f180]
  have dm : Dm 9 6 [[0, 1, 2, 3], [], []] := ⟨⟩
  have ho := okTm_iff.1 ht
  have hl := ho.2.2.2.2.2.1
  by_cases h1 : t.kind = 4
  · by_cases h2 : t.name = ⟨#[38]⟩
    · by_cases h3 : t.args.length = 2
      · have h30 : 0 < t.args.length := by omega
        have h31 : 1 < t.args.length := by omega
        have hp := partsT_and ⟨h1, h2, h3⟩ h30 h31
        have h3' : (t.args.length : Int) = 2 := by omega
        refine RunX ((And.intro (And.intro @eTm_eta (And.intro @eTy_eta @h1)) (And.intro (And.intro @h2 @h3') (And.intro @h30 @h31)))) ?_; repeat' (first | (with_reducible exact True.intro) | (with_reducible refine Lf.mk ?_ ?_) | (with_reducible intro hb))
        have hn : (partsT t).length = (partsT t.args[0]).length + (partsT t.args[1]).length := by rw [hp, List.length_append]
        have H0 := H _ (List.getElem_mem h30) xs (by omega)
        have H1 := H _ (List.getElem_mem h31) (xs ++ partsT t.args[0]) (by rw [List.length_append]; omega)
        rw [List.length_append, List.flatMap_append] at H1
        refine CalO ((And.intro @eTm_eta @eTy_eta)) (H0) ?_
        refine RunX ((And.intro @eTm_eta @eTy_eta)) ?_; repeat' (first | (with_reducible exact True.intro) | (with_reducible refine Lf.mk ?_ ?_) | (with_reducible intro hb))
        refine CalO ((And.intro @eTm_eta @eTy_eta)) (H1) ?_
        refine RunX ((And.intro @eTm_eta @eTy_eta)) ?_; repeat' (first | (with_reducible exact True.intro) | (with_reducible refine Lf.mk ?_ ?_) | (with_reducible intro hb))
        all_goals simp only [hp, List.length_append, List.flatMap_append, Nat.add_assoc, List.append_assoc]
      · have hp := partsT_one (t := t) fun h => h3 h.2.2
        have h3' : ¬ (t.args.length : Int) = 2 := by omega
        refine RunX ((And.intro (And.intro @eTm_eta (And.intro @eTy_eta @h1)) (And.intro @h2 (And.intro @h3' @hp)))) ?_; repeat' (first | (with_reducible exact True.intro) | (with_reducible refine Lf.mk ?_ ?_) | (with_reducible intro hb))
        simp only [flat_one, eTm_eta t, slI, h1, h2]
    · have hp := partsT_one (t := t) fun h => h2 h.2.1
      refine RunX ((And.intro (And.intro @eTm_eta @eTy_eta) (And.intro @h1 (And.intro @h2 @hp)))) ?_; repeat' (first | (with_reducible exact True.intro) | (with_reducible refine Lf.mk ?_ ?_) | (with_reducible intro hb))
      simp only [flat_one, eTm_eta t, slI, h1]
  · have hp := partsT_one (t := t) fun h => h1 h.1
    refine RunX ((And.intro (And.intro @eTm_eta @eTy_eta) (And.intro @h1 @hp))) ?_; repeat' (first | (with_reducible exact True.intro) | (with_reducible refine Lf.mk ?_ ?_) | (with_reducible intro hb))
    simp only [flat_one, eTm_eta t, slI]

theorem parts_le {t : Tm} (h : andT t) (u : Tm) (hu : u ∈ t.args) : (partsT u).length ≤ (partsT t).length := by
  have hl := h.2.2
  have hp := partsT_and h (by omega) (by omega)
  rw [hp, List.length_append]
  obtain ⟨i, hi, rfl⟩ := List.mem_iff_getElem.1 hu
  have : i = 0 ∨ i = 1 := by omega
  rcases this with rfl | rfl <;> omega
theorem conj_ok (t : Tm) (ht : okTm (2^20) t) (xs : List Tm) (hx : xs.length + (partsT t).length ≤ 2^20) : FnS Try.prog 180 [(1, .vec 80 8 xs.length (xs.flatMap eTm) false)] [agT (eTm t), .c (.os 1 xs.length)] [(1, .vec 80 8 (xs.length + (partsT t).length) (xs.flatMap eTm ++ (partsT t).flatMap eTm) false)] (.c (.os 1 (xs.length + (partsT t).length))) :=
  conj_of t ht xs hx fun u hu ys hy => conj_ok u ((okTm_iff.1 ht).2.2.2.2.2.2 u hu) ys hy
termination_by SizeOf.sizeOf t
decreasing_by exact Tm.mem hu
end Go.VC.T
/- Copies of types and terms. -/
namespace Go.VC.T
open Go Go.VC Go.Proofs Go.VC.F
set_option linter.unusedSimpArgs false
set_option linter.unusedVariables false
set_option linter.defProp false
set_option maxRecDepth 100000
set_option maxHeartbeats 2000000
def fc101A33 := (And.intro (And.intro (And.intro (And.intro sz3 (And.intro ag3 zv3)) (And.intro (And.intro un3 sz4) (And.intro ag4 zv4))) (And.intro (And.intro (And.intro un4 sz63) (And.intro ag63 zv63)) (And.intro (And.intro sb63 un63) (And.intro el63 ap63)))) (And.intro (And.intro (And.intro sz75 (And.intro ag75 zv75)) (And.intro (And.intro sb75 un75) (And.intro el75 ap75))) (And.intro (And.intro (And.intro sz77 ag77) (And.intro zv77 fl77_0)) (And.intro (And.intro fl77_1 fl77_2) (And.intro pl77 okf101)))))
theorem l3Copy_of (v : Ty) (hv : okTy (2^20) v) (H : ∀ u ∈ v.args, FnP Try.prog 101 [agT (eTy u)] (agT (eTy u))) : FnS Try.prog 101 [] [agT (eTy v)] [] (agT (eTy v)) := by
  refine FnS.go [0, 1, 2, 3, 4, 16] [1000] Try.func101 rfl (fun kt kz => ?_)
  have fcx := fc101A33
  simp only [Try.f101]
  have dx : Dx 8 7 3 := ⟨⟩
  have ho := okTy_iff.1 hv
  have hl1 := ho.2.1.1
  have hl := ho.2.2.1
  refine RunX (@eTy_eta) ?_; repeat' (first | (with_reducible exact True.intro) | (with_reducible refine Lf.mk ?_ ?_) | (with_reducible intro hb))
  refine Sm.nlB (6) 2 (1000) (77) 3 false (by rfl) (by rfl) (by rfl) (by decide) (by rfl) (by rfl) (by decide) (by rfl) ?_; simp only [upd, List.set_cons_zero, List.set_cons_succ, ↓reduceIte, Nat.reduceEqDiff]
  refine Trn (α := Nat) [4, 12, 13, 14, 15, 16, 17, 18, 19, 20, 21, 22, 23, 24, 25, 26, 27, 28, 29] (fun i => [(4, iT i)]) (fun i => [(2, .box 77 ((eTy v).map .im)), (4, .box 77 [.im (.sc (.int .i64 0)), .nl, .nl]), (6, .box 77 [.im (.sc (.int .i64 v.kind)), .im (.sl v.labels.length (v.labels.flatMap eS)), .os 1000 i]), (1000, .vec 77 3 i ((v.args.take i).flatMap eTy) false)]) (fun i => i ≤ v.args.length) (fun i => v.args.length - i) (0) (Nat.zero_le _) (@eTy_eta) ?_; intro lx hI; obtain i := lx; (try simp only [List.nil_append, List.cons_append] at hI ⊢)
  by_cases hlt : lx < v.args.length
  · have e1 : (v.args.take lx).flatMap eTy ++ eTy v.args[lx] = (v.args.take (lx + 1)).flatMap eTy := by rw [take_at hlt, List.flatMap_append, flat_one]
    rw [eTy_eta v.args[lx]] at e1
    simp only [slI] at e1
    refine Run ((And.intro @eTy_eta @hlt)) ?_; repeat' (first | (with_reducible exact True.intro) | (with_reducible refine Lf.mk ?_ ?_) | (with_reducible intro hb))
    refine CalI (@eTy_eta) (H _ (List.getElem_mem hlt)) ?_
    refine Run ((And.intro @eTy_eta @hlt)) ?_; repeat' (first | (with_reducible exact True.intro) | (with_reducible refine Lf.mk ?_ ?_) | (with_reducible intro hb))
    exact Nxt ((And.intro @eTy_eta @e1)) (lx + 1) (hlt) (by first | omega | (simp; omega))
  · obtain rfl : lx = v.args.length := by omega
    have e1 : (v.args.take v.args.length).flatMap eTy = v.args.flatMap eTy := by rw [List.take_length]
    refine Run ((And.intro @eTy_eta (And.intro @hlt @e1))) ?_; repeat' (first | (with_reducible exact True.intro) | (with_reducible refine Lf.mk ?_ ?_) | (with_reducible intro hb))

theorem l3Copy_ok (v : Ty) (hv : okTy (2^20) v) : FnP Try.prog 101 [agT (eTy v)] (agT (eTy v)) :=
  l3Copy_of v hv fun u hu => l3Copy_ok u ((okTy_iff.1 hv).2.2.2 u hu)
termination_by SizeOf.sizeOf v
decreasing_by exact Ty.mem hu
def fc177A33 := (And.intro (And.intro (And.intro (And.intro (And.intro sz3 ag3) (And.intro zv3 (And.intro un3 sz4))) (And.intro (And.intro ag4 (And.intro zv4 un4)) (And.intro sz9 (And.intro ag9 zv9)))) (And.intro (And.intro (And.intro un9 (And.intro sz63 ag63)) (And.intro zv63 (And.intro sb63 un63))) (And.intro (And.intro el63 (And.intro ap63 sz77)) (And.intro ag77 (And.intro zv77 fl77_0))))) (And.intro (And.intro (And.intro (And.intro fl77_1 fl77_2) (And.intro pl77 (And.intro sz78 ag78))) (And.intro (And.intro zv78 (And.intro sb78 un78)) (And.intro el78 (And.intro ap78 sz80)))) (And.intro (And.intro (And.intro ag80 (And.intro zv80 fl80_0)) (And.intro fl80_1 (And.intro fl80_2 fl80_3))) (And.intro (And.intro fl80_4 (And.intro fl80_5 pl80)) (And.intro okf101 (And.intro okf177 sz75))))))
theorem l7Copy_of (v : Tm) (hv : okTm (2^20) v) (H : ∀ u ∈ v.args, FnP Try.prog 177 [agT (eTm u)] (agT (eTm u))) : FnS Try.prog 177 [] [agT (eTm v)] [] (agT (eTm v)) := by
  refine FnS.go [0, 1, 2, 3, 4, 23] [1000] Try.func177 rfl (fun kt kz => ?_)
  have fcx := fc177A33
  simp only [Try.f177]
  have dx : Dx 15 14 3 := ⟨⟩
  have ho := okTm_iff.1 hv
  have hl1 := ho.2.2.2.2.1.1
  have hl := ho.2.2.2.2.2.1
  refine RunX ((And.intro @eTm_eta @eTy_eta)) ?_; repeat' (first | (with_reducible exact True.intro) | (with_reducible refine Lf.mk ?_ ?_) | (with_reducible intro hb))
  refine CalI ((And.intro @eTm_eta @eTy_eta)) (l3Copy_ok v.ty ho.2.2.2.1) ?_
  refine RunX ((And.intro @eTm_eta @eTy_eta)) ?_; repeat' (first | (with_reducible exact True.intro) | (with_reducible refine Lf.mk ?_ ?_) | (with_reducible intro hb))
  refine Sm.nlB (6) 7 (1000) (80) 8 false (by rfl) (by rfl) (by rfl) (by decide) (by rfl) (by rfl) (by decide) (by rfl) ?_; simp only [upd, List.set_cons_zero, List.set_cons_succ, ↓reduceIte, Nat.reduceEqDiff]
  refine Trn (α := Nat) [4, 19, 20, 21, 22, 23, 24, 25, 26, 27, 28, 29, 30, 31, 32, 33, 34, 35, 36] (fun i => [(4, iT i)]) (fun i => [(2, .box 80 ((eTm v).map .im)), (4, .box 80 [.im (.sc (.int .i64 0)), .im (.sc (.string ⟨#[]⟩)), .im (.sc (.int .i64 0)), .im (.sc (.int .i64 0)), .nl, .nl, .nl, .nl]), (6, .box 80 [.im (.sc (.int .i64 v.kind)), .im (.sc (.string v.name)), .im (.sc (.int .i64 v.n)), .im (.sc (.int .i64 v.ty.kind)), .im (.sl v.ty.labels.length (v.ty.labels.flatMap eS)), .im (.sl v.ty.args.length (v.ty.args.flatMap eTy)), .im (.sl v.labels.length (v.labels.flatMap eS)), .os 1000 i]), (1000, .vec 80 8 i ((v.args.take i).flatMap eTm) false)]) (fun i => i ≤ v.args.length) (fun i => v.args.length - i) (0) (Nat.zero_le _) ((And.intro @eTm_eta @eTy_eta)) ?_; intro lx hI; obtain i := lx; (try simp only [List.nil_append, List.cons_append] at hI ⊢)
  by_cases hlt : lx < v.args.length
  · have e1 : (v.args.take lx).flatMap eTm ++ eTm v.args[lx] = (v.args.take (lx + 1)).flatMap eTm := by rw [take_at hlt, List.flatMap_append, flat_one]
    rw [eTm_eta v.args[lx]] at e1
    simp only [slI] at e1
    refine Run ((And.intro @eTm_eta (And.intro @eTy_eta @hlt))) ?_; repeat' (first | (with_reducible exact True.intro) | (with_reducible refine Lf.mk ?_ ?_) | (with_reducible intro hb))
    refine CalI ((And.intro @eTm_eta @eTy_eta)) (H _ (List.getElem_mem hlt)) ?_
    refine Run ((And.intro @eTm_eta (And.intro @eTy_eta @hlt))) ?_; repeat' (first | (with_reducible exact True.intro) | (with_reducible refine Lf.mk ?_ ?_) | (with_reducible intro hb))
    exact Nxt ((And.intro @eTm_eta (And.intro @eTy_eta @e1))) (lx + 1) (hlt) (by first | omega | (simp; omega))
  · obtain rfl : lx = v.args.length := by omega
    have e1 : (v.args.take v.args.length).flatMap eTm = v.args.flatMap eTm := by rw [List.take_length]
    refine Run ((And.intro (And.intro @eTm_eta @eTy_eta) (And.intro @hlt @e1))) ?_; repeat' (first | (with_reducible exact True.intro) | (with_reducible refine Lf.mk ?_ ?_) | (with_reducible intro hb))

theorem l7Copy_ok (v : Tm) (hv : okTm (2^20) v) : FnP Try.prog 177 [agT (eTm v)] (agT (eTm v)) :=
  l7Copy_of v hv fun u hu => l7Copy_ok u ((okTm_iff.1 hv).2.2.2.2.2.2 u hu)
termination_by SizeOf.sizeOf v
decreasing_by exact Tm.mem hu
end Go.VC.T
/- Data (TableDecl): how they are measured, copied and compared. -/
namespace Go.VC.T
open Go Go.VC Go.Proofs Go.VC.F
set_option linter.unusedSimpArgs false
set_option linter.unusedVariables false
set_option linter.defProp false
set_option maxRecDepth 100000
set_option maxHeartbeats 2000000
def fc148STableDecl := (And.intro (And.intro (And.intro (And.intro sz3 (And.intro ag3 zv3)) (And.intro (And.intro un3 sz4) (And.intro ag4 zv4))) (And.intro (And.intro un4 (And.intro sz9 ag9)) (And.intro (And.intro zv9 un9) (And.intro sz66 ag66)))) (And.intro (And.intro (And.intro zv66 (And.intro fl66_0 fl66_1)) (And.intro (And.intro fl66_2 pl66) (And.intro sz199 ag199))) (And.intro (And.intro zv199 (And.intro fl199_0 fl199_1)) (And.intro (And.intro pl199 okf138) (And.intro sz63 sz64)))))
theorem szTableDecl_ok (t : Decl) (h : okDecl (2^48) t) (left : Int) (hl : 0 ≤ left ∧ left ≤ 2^20) : FnS Try.prog 148 [] [agT (eDecl t), iT left] [] (iT (szR (zDecl t) left)) := by
  refine FnS.go [0, 1, 2, 4, 11, 17] [] Try.func148 rfl (fun kt kz => ?_)
  have fcx := fc148STableDecl
  simp only [Try.f148]
  have ho := okDecl_iff.1 h
  have hs0 : t.name.size = zS t.name := rfl
  have hw0 : zS t.name ≤ 2^48 := ho.1
  refine Run ((And.intro (And.intro @eDecl_eta @eTy_eta) (And.intro @hs0 @szR_add))) ?_; repeat' (first | (with_reducible exact True.intro) | (with_reducible refine Lf.mk ?_ ?_) | (with_reducible intro hb))
  · congr 4; have s2 := szR_spec (zDecl t) left; rw [zDecl_eta] at s2 ⊢; omega
  · skip
    have e : left - (zS t.name : Int) = szR (zS t.name) left := by have s3 := szR_spec (zS t.name) left; omega
    rw [e] at hb ⊢
    refine Cal ((And.intro (And.intro @eDecl_eta @eTy_eta) (And.intro @hs0 @szR_add))) (szType_ok _ ho.2 _ ⟨(by assumption), by have := szR_le (n := zS t.name) hl.1; omega⟩) ?_
    have hz := szR_le (n := zS t.name + zTy t.row) hl.1
    refine Run ((And.intro (And.intro @eDecl_eta @eTy_eta) (And.intro @hs0 @szR_add))) ?_; repeat' (first | (with_reducible exact True.intro) | (with_reducible refine Lf.mk ?_ ?_) | (with_reducible intro hb))
    · congr 4; have s1 := szR_spec (zS t.name + zTy t.row) left; have s2 := szR_spec (zDecl t) left; rw [zDecl_eta] at s2 ⊢; omega
    · skip
      rw [zDecl_eta]
def fc97STableDecl := (And.intro (And.intro (And.intro (And.intro sz3 (And.intro ag3 zv3)) (And.intro un3 (And.intro sz4 ag4))) (And.intro (And.intro zv4 (And.intro un4 sz87)) (And.intro ag87 (And.intro zv87 sb87)))) (And.intro (And.intro (And.intro un87 (And.intro el87 ap87)) (And.intro sz199 (And.intro ag199 zv199))) (And.intro (And.intro fl199_0 (And.intro fl199_1 pl199)) (And.intro okf148 (And.intro sz9 sz66)))))
theorem szTableDeclS_of (xs : List Decl) (hx : okLs (2^48) okDecl xs) (H : ∀ t ∈ xs, ∀ left : Int, 0 ≤ left ∧ left ≤ 2^20 → FnP Try.prog 148 [agT (eDecl t), iT left] (iT (szR (zDecl t) left))) (left : Int) (hl : 0 ≤ left ∧ left ≤ 2^20) : FnS Try.prog 97 [] [slT eDecl xs, iT left] [] (iT (szR (zL zDecl xs) left)) := by
  refine FnS.go [0, 1, 4, 5, 11, 15, 25] [] Try.func97 rfl (fun kt kz => ?_)
  have fcx := fc97STableDecl
  simp only [Try.f97]
  have hx1 := hx.1
  refine Run (cast_succ) ?_; repeat' (first | (with_reducible exact True.intro) | (with_reducible refine Lf.mk ?_ ?_) | (with_reducible intro hb))
  · simp only [szR_nil hb zL_len]
  · rw [szR_sub hb]
    have hb2 := szR_sub hb ▸ hb
    refine Trn (α := Nat) [1, 4, 5, 12, 13, 14, 15, 16, 17, 18, 19, 20, 21, 22, 23, 24, 25] (fun i => [(5, iT i), (1, iT (szR (zT zDecl xs i) left))]) (fun i => []) (fun i => i ≤ xs.length ∧ 0 ≤ szR (zT zDecl xs i) left) (fun i => xs.length - i) (0) (⟨Nat.zero_le _, by rw [zT_zero]; exact hb2⟩) ((zT_zero (z := zDecl) (l := xs))) ?_; intro lx hI; obtain i := lx; (try simp only [List.nil_append, List.cons_append] at hI ⊢)
    have hz := szR_le (n := zT zDecl xs lx) hl.1
    by_cases hlt : lx < xs.length
    · have e : szR (zDecl xs[lx]) (szR (zT zDecl xs lx) left) = szR (zT zDecl xs (lx + 1)) left := by rw [zT_succ hlt, ← szR_add]
      refine Run ((And.intro @eDecl_eta @eTy_eta)) ?_; repeat' (first | (with_reducible exact True.intro) | (with_reducible refine Lf.mk ?_ ?_) | (with_reducible intro hb))
      · refine Cal ((And.intro @eDecl_eta @eTy_eta)) (H _ (List.getElem_mem hlt) _ ⟨hI.2, by omega⟩) ?_
        refine Run (cast_succ) ?_; repeat' (first | (with_reducible exact True.intro) | (with_reducible refine Lf.mk ?_ ?_) | (with_reducible intro hb))
        · rw [e] at hb
          rw [szR_neg hb zT_le]
        · rw [e] at hb
          exact Nxt (@e) (lx + 1) (⟨by omega, hb⟩) (by first | omega | (simp; omega))
      · omega
    · refine Run (cast_succ) ?_; repeat' (first | (with_reducible exact True.intro) | (with_reducible refine Lf.mk ?_ ?_) | (with_reducible intro hb))
      · omega
      · rw [zT_all (by omega)]

theorem szTableDeclS_ok (xs : List Decl) (h : okLs (2^48) okDecl xs) (left : Int) (hl : 0 ≤ left ∧ left ≤ 2^20) : FnP Try.prog 97 [slT eDecl xs, iT left] (iT (szR (zL zDecl xs) left)) := szTableDeclS_of xs h (fun t ht left hl => szTableDecl_ok t (h.2 t ht) left hl) left hl
def fc153STableDecl := (And.intro (And.intro (And.intro (And.intro (And.intro sz9 ag9) (And.intro zv9 un9)) (And.intro (And.intro sz66 ag66) (And.intro zv66 fl66_0))) (And.intro (And.intro (And.intro fl66_1 fl66_2) (And.intro pl66 sz77)) (And.intro (And.intro ag77 zv77) (And.intro fl77_0 (And.intro fl77_1 fl77_2))))) (And.intro (And.intro (And.intro (And.intro pl77 sz117) (And.intro ag117 zv117)) (And.intro (And.intro fl117_0 fl117_1) (And.intro pl117 (And.intro sz199 ag199)))) (And.intro (And.intro (And.intro zv199 fl199_0) (And.intro fl199_1 pl199)) (And.intro (And.intro okf142 sz3) (And.intro sz63 (And.intro sz64 sz75))))))
theorem toTableDecl_w (t : Decl) (h : okDecl (2^20) t) : FnS Try.prog 153 [] [agT (eDecl t)] [(1000, .row t.row.labels.length (t.row.labels.flatMap eS)), (1002, .row t.row.args.length (t.row.args.flatMap eTy))] (.ag [.im (.sc (.string t.name)), .im (.sc (.int .i64 t.row.kind)), .os 1000 t.row.labels.length, .os 1002 t.row.args.length]) := by
  refine FnS.go [0, 1, 2, 3] [] Try.func153 rfl (fun kt kz => ?_)
  have fcx := fc153STableDecl
  simp only [Try.f153]
  have ho := okDecl_iff.1 h
  refine Run ((And.intro @eDecl_eta @eTy_eta)) ?_; repeat' (first | (with_reducible exact True.intro) | (with_reducible refine Lf.mk ?_ ?_) | (with_reducible intro hb))
  refine CalI ((And.intro @eDecl_eta @eTy_eta)) (toType_o _ ho.2 1000 1002 (by decide)) ?_
  refine Run ((And.intro @eDecl_eta @eTy_eta)) ?_; repeat' (first | (with_reducible exact True.intro) | (with_reducible refine Lf.mk ?_ ?_) | (with_reducible intro hb))

theorem toTableDecl_o (t : Decl) (h : okDecl (2^20) t) : ∀ q0 q1 : Nat, [q0, q1].Nodup → FnS Try.prog 153 [] [agT (eDecl t)] [(q0, .row t.row.labels.length (t.row.labels.flatMap eS)), (q1, .row t.row.args.length (t.row.args.flatMap eTy))] (.ag [.im (.sc (.string t.name)), .im (.sc (.int .i64 t.row.kind)), .os q0 t.row.labels.length, .os q1 t.row.args.length]) := by
  intro q0 q1 hq
  obtain ⟨p, hp⟩ := pml [1000, 1002] [q0, q1] (by decide) hq rfl
  simp only [List.map_cons, List.map_nil, List.cons.injEq, and_true] at hp
  refine ((toTableDecl_w t h).rows.pm p).as ?_ ?_ <;> simp [rowS, rowO, renS, Ob.ren, TV.ren, renL, Cell.ren, hp]
def fc104STableDecl := (And.intro (And.intro (And.intro (And.intro (And.intro sz3 ag3) (And.intro zv3 un3)) (And.intro (And.intro sz4 ag4) (And.intro zv4 (And.intro un4 sz43)))) (And.intro (And.intro (And.intro ag43 zv43) (And.intro sb43 (And.intro un43 el43))) (And.intro (And.intro ap43 sz87) (And.intro ag87 (And.intro zv87 sb87))))) (And.intro (And.intro (And.intro (And.intro un87 el87) (And.intro ap87 sz117)) (And.intro (And.intro ag117 zv117) (And.intro fl117_0 (And.intro fl117_1 pl117)))) (And.intro (And.intro (And.intro sz199 ag199) (And.intro zv199 (And.intro fl199_0 fl199_1))) (And.intro (And.intro pl199 okf153) (And.intro sz9 (And.intro sz77 sz66))))))
theorem toTableDeclS_w (xs : List Decl) (hx : okLs (2^20) okDecl xs) (H : ∀ t ∈ xs, ∀ q0 q1 : Nat, [q0, q1].Nodup → FnS Try.prog 153 [] [agT (eDecl t)] [(q0, .row t.row.labels.length (t.row.labels.flatMap eS)), (q1, .row t.row.args.length (t.row.args.flatMap eTy))] (.ag [.im (.sc (.string t.name)), .im (.sc (.int .i64 t.row.kind)), .os q0 t.row.labels.length, .os q1 t.row.args.length])) : FnS Try.prog 104 [] [slT eDecl xs] [(14, .vec 117 4 xs.length (xs.flatMap eDecl) true)] (.c (.os 14 xs.length)) := by
  refine FnS.go [0, 2, 3, 4, 11] [] Try.func104 rfl (fun kt kz => ?_)
  have fcx := fc104STableDecl
  simp only [Try.f104]
  have hx1 := hx.1
  refine Run (cast_succ) ?_; repeat' (first | (with_reducible exact True.intro) | (with_reducible refine Lf.mk ?_ ?_) | (with_reducible intro hb))
  refine Trn (α := Nat) [4, 8, 9, 10, 11, 12, 13, 14, 15, 16, 17, 18, 19, 20, 21] (fun i => [(4, iT i), (3, .c (.os 14 xs.length))]) (fun i => [(14, .vec 117 4 xs.length (filled eDecl [.sc (.string ⟨#[]⟩), .sc (.int .i64 0), .sl 0 [], .sl 0 []] xs i) true)]) (fun i => i ≤ xs.length) (fun i => xs.length - i) (0) (Nat.zero_le _) (cast_succ) ?_; intro lx hI; obtain i := lx; (try simp only [List.nil_append, List.cons_append] at hI ⊢)
  refine Run ((And.intro @eDecl_eta @eTy_eta)) ?_; repeat' (first | (with_reducible exact True.intro) | (with_reducible refine Lf.mk ?_ ?_) | (with_reducible intro hb))
  · refine CalI ((And.intro @eDecl_eta @eTy_eta)) (H _ (List.getElem_mem hb) 1000 1002 (by decide)) ?_
    refine Run ((And.intro @eDecl_eta @eTy_eta)) ?_; repeat' (first | (with_reducible exact True.intro) | (with_reducible refine Lf.mk ?_ ?_) | (with_reducible intro hb))
    have hs := filled_step' (E := eDecl) (zs := [.sc (.string ⟨#[]⟩), .sc (.int .i64 0), .sl 0 [], .sl 0 []]) hb
    simp only [eDecl_eta, eTy_eta, setL_st, stL_one, slI] at hs
    exact Nxt (@hs) (lx + 1) (by omega) (by first | omega | (simp; omega))

theorem toTableDeclS_q (xs : List Decl) (hx : okLs (2^20) okDecl xs) (H : ∀ t ∈ xs, ∀ q0 q1 : Nat, [q0, q1].Nodup → FnS Try.prog 153 [] [agT (eDecl t)] [(q0, .row t.row.labels.length (t.row.labels.flatMap eS)), (q1, .row t.row.args.length (t.row.args.flatMap eTy))] (.ag [.im (.sc (.string t.name)), .im (.sc (.int .i64 t.row.kind)), .os q0 t.row.labels.length, .os q1 t.row.args.length])) (q : Nat) : FnS Try.prog 104 [] [slT eDecl xs] [(q, .row xs.length (xs.flatMap eDecl))] (.c (.os q xs.length)) := by
  obtain ⟨p, hp⟩ := pm1 14 q
  refine ((toTableDeclS_w xs hx H).rows.pm p).as ?_ ?_ <;> simp [rowS, rowO, renS, Ob.ren, TV.ren, Cell.ren, hp]

theorem toTableDeclS_o (xs : List Decl) (h : okLs (2^20) okDecl xs) (q : Nat) : FnS Try.prog 104 [] [slT eDecl xs] [(q, .row xs.length (xs.flatMap eDecl))] (.c (.os q xs.length)) := toTableDeclS_q xs h (fun t ht => toTableDecl_o t (h.2 t ht)) q
def fc120STableDecl := (And.intro (And.intro (And.intro (And.intro sz4 (And.intro ag4 zv4)) (And.intro un4 (And.intro sz9 ag9))) (And.intro (And.intro zv9 (And.intro un9 sz77)) (And.intro ag77 (And.intro zv77 fl77_0)))) (And.intro (And.intro (And.intro fl77_1 (And.intro fl77_2 pl77)) (And.intro sz117 (And.intro ag117 zv117))) (And.intro (And.intro fl117_0 (And.intro fl117_1 pl117)) (And.intro (And.intro okf146 sz3) (And.intro sz63 sz75)))))
theorem eqTableDecl_ok (t : Decl) (h : okDecl (2^20) t) : FnS Try.prog 120 [] [agT (eDecl t), agT (eDecl t)] [] (bT true) := by
  refine FnS.go [0, 1, 2, 3, 4, 9, 15] [] Try.func120 rfl (fun kt kz => ?_)
  have fcx := fc120STableDecl
  simp only [Try.f120]
  have ho := okDecl_iff.1 h
  refine Run ((And.intro @eDecl_eta @eTy_eta)) ?_; repeat' (first | (with_reducible exact True.intro) | (with_reducible refine Lf.mk ?_ ?_) | (with_reducible intro hb))
  refine Cal ((And.intro @eDecl_eta @eTy_eta)) (eqType_ok _ ho.2) ?_
  refine Run ((And.intro @eDecl_eta @eTy_eta)) ?_; repeat' (first | (with_reducible exact True.intro) | (with_reducible refine Lf.mk ?_ ?_) | (with_reducible intro hb))
def fc69STableDecl := (And.intro (And.intro (And.intro (And.intro sz3 (And.intro ag3 zv3)) (And.intro un3 (And.intro sz4 ag4))) (And.intro (And.intro zv4 (And.intro un4 sz43)) (And.intro ag43 (And.intro zv43 sb43)))) (And.intro (And.intro (And.intro un43 (And.intro el43 ap43)) (And.intro sz117 (And.intro ag117 zv117))) (And.intro (And.intro fl117_0 (And.intro fl117_1 pl117)) (And.intro okf120 (And.intro sz9 sz77)))))
theorem eqTableDeclS_of (xs : List Decl) (hx : okLs (2^20) okDecl xs) (H : ∀ t ∈ xs, FnP Try.prog 120 [agT (eDecl t), agT (eDecl t)] (bT true)) : FnS Try.prog 69 [] [slT eDecl xs, slT eDecl xs] [] (bT true) := by
  refine FnS.go [0, 1, 4, 5, 10, 14, 26] [] Try.func69 rfl (fun kt kz => ?_)
  have fcx := fc69STableDecl
  simp only [Try.f69]
  have hx1 := hx.1
  refine Run (cast_succ) ?_; repeat' (first | (with_reducible exact True.intro) | (with_reducible refine Lf.mk ?_ ?_) | (with_reducible intro hb))
  refine Trn (α := Nat) [4, 5, 11, 12, 13, 14, 15, 16, 17, 18, 19, 20, 21, 22, 23, 24, 25, 26] (fun i => [(5, iT i)]) (fun i => []) (fun i => i ≤ xs.length) (fun i => xs.length - i) (0) (Nat.zero_le _) (cast_succ) ?_; intro lx hI; obtain i := lx; (try simp only [List.nil_append, List.cons_append] at hI ⊢)
  refine Run ((And.intro @eDecl_eta @eTy_eta)) ?_; repeat' (first | (with_reducible exact True.intro) | (with_reducible refine Lf.mk ?_ ?_) | (with_reducible intro hb))
  · refine Cal ((And.intro @eDecl_eta @eTy_eta)) (H _ (List.getElem_mem hb)) ?_
    refine Run ((And.intro @eDecl_eta @eTy_eta)) ?_; repeat' (first | (with_reducible exact True.intro) | (with_reducible refine Lf.mk ?_ ?_) | (with_reducible intro hb))
    exact Nxt (cast_succ) (lx + 1) (by omega) (by first | omega | (simp; omega))

theorem eqTableDeclS_ok (xs : List Decl) (h : okLs (2^20) okDecl xs) : FnP Try.prog 69 [slT eDecl xs, slT eDecl xs] (bT true) := eqTableDeclS_of xs h (fun t ht => eqTableDecl_ok t (h.2 t ht))
theorem toTableDecl_ok (t : Decl) (h : okDecl (2^20) t) : FnP Try.prog 153 [agT (eDecl t)] (agT (eDecl t)) := (toTableDecl_o t h 1000 1002 (by decide)).tree (by simp -dsimp (maxSteps := 2000000) (disch := omega) only [vs, ↓Option.bind_some, ev1, ofV, scalarB, Kn, Kb, calleeOf, evLoad, ptr, evField, evFieldAddr, shift, ↓pt_at, ↓pt_at1, evExtract, evBin, evLen, evConv, cellsT, noS, Cell.has, Cell.hasN, Cell.anyN, toIV, toIV0, toIVs, ownC, srcM, Ob.own, Ob.esz, allSc, nilK, lenC, ownCell, isPtr, ptrNil, frzO, Cell.frz, Cell.keys, ↓reduceIte, reduceCtorEq, Nat.reduceEqDiff, Nat.reduceBEq, Nat.reduceBNe, Nat.reduceAdd, Nat.reduceMul, Nat.reduceSub, Nat.reduceLT, Nat.reduceLeDiff, Nat.reducePow, Int.reduceLT, Int.reduceLE, Int.reduceEq, Int.reduceNe, quietB, Nat.reduceMod, Int.reduceToNat, ne_eq, eq_self, exists_const, evBytes, byRow, byL, byStr_size, ifsz, ByteArray.size_append, Option.none_or, Option.some_or, evLook, keyD, eDecl_eta, eTy_eta])
theorem toTableDeclS_ok (xs : List Decl) (h : okLs (2^20) okDecl xs) : FnP Try.prog 104 [slT eDecl xs] (slT eDecl xs) := (toTableDeclS_o xs h 1000).tree (by simp -dsimp (maxSteps := 2000000) (disch := omega) only [vs, ↓Option.bind_some, ev1, ofV, scalarB, Kn, Kb, calleeOf, evLoad, ptr, evField, evFieldAddr, shift, ↓pt_at, ↓pt_at1, evExtract, evBin, evLen, evConv, cellsT, noS, Cell.has, Cell.hasN, Cell.anyN, toIV, toIV0, toIVs, ownC, srcM, Ob.own, Ob.esz, allSc, nilK, lenC, ownCell, isPtr, ptrNil, frzO, Cell.frz, Cell.keys, ↓reduceIte, reduceCtorEq, Nat.reduceEqDiff, Nat.reduceBEq, Nat.reduceBNe, Nat.reduceAdd, Nat.reduceMul, Nat.reduceSub, Nat.reduceLT, Nat.reduceLeDiff, Nat.reducePow, Int.reduceLT, Int.reduceLE, Int.reduceEq, Int.reduceNe, quietB, Nat.reduceMod, Int.reduceToNat, ne_eq, eq_self, exists_const, evBytes, byRow, byL, byStr_size, ifsz, ByteArray.size_append, Option.none_or, Option.some_or, evLook, keyD])

end Go.VC.T
/- Data (Schema): how they are measured, copied and compared. -/
namespace Go.VC.T
open Go Go.VC Go.Proofs Go.VC.F
set_option linter.unusedSimpArgs false
set_option linter.unusedVariables false
set_option linter.defProp false
set_option maxRecDepth 100000
set_option maxHeartbeats 2000000
def fc42SSchema := (And.intro (And.intro (And.intro (And.intro sz3 ag3) (And.intro zv3 (And.intro un3 sz4))) (And.intro (And.intro ag4 zv4) (And.intro un4 (And.intro sz87 ag87)))) (And.intro (And.intro (And.intro zv87 sb87) (And.intro un87 (And.intro el87 ap87))) (And.intro (And.intro sz89 (And.intro ag89 zv89)) (And.intro fl89_0 (And.intro pl89 okf97)))))
theorem szSchema_ok (t : List Decl) (h : okSch (2^48) t) (left : Int) (hl : 0 ≤ left ∧ left ≤ 2^20) : FnS Try.prog 42 [] [agT (eSch t), iT left] [] (iT (szR (zSch t) left)) := by
  refine FnS.go [0, 1, 2, 4, 10] [] Try.func42 rfl (fun kt kz => ?_)
  have fcx := fc42SSchema
  simp only [Try.f42]
  have ho := okSch_iff.1 h
  refine Run ((And.intro @eSch_eta @szR_add)) ?_; repeat' (first | (with_reducible exact True.intro) | (with_reducible refine Lf.mk ?_ ?_) | (with_reducible intro hb))
  refine Cal ((And.intro @eSch_eta @szR_add)) (szTableDeclS_ok _ ho _ hl) ?_
  have hz := szR_le (n := zL zDecl t) hl.1
  refine Run ((And.intro @eSch_eta @szR_add)) ?_; repeat' (first | (with_reducible exact True.intro) | (with_reducible refine Lf.mk ?_ ?_) | (with_reducible intro hb))
  · congr 4; have s1 := szR_spec (zL zDecl t) left; have s2 := szR_spec (zSch t) left; rw [zSch_eta] at s2 ⊢; omega
  · skip
    rw [zSch_eta]

def fc44SSchema := (And.intro (And.intro (And.intro (And.intro sz43 (And.intro ag43 zv43)) (And.intro sb43 (And.intro un43 el43))) (And.intro (And.intro ap43 (And.intro sz45 ag45)) (And.intro zv45 (And.intro fl45_0 pl45)))) (And.intro (And.intro (And.intro sz87 (And.intro ag87 zv87)) (And.intro sb87 (And.intro un87 el87))) (And.intro (And.intro ap87 (And.intro sz89 ag89)) (And.intro (And.intro zv89 fl89_0) (And.intro pl89 okf104)))))
theorem toSchema_w (t : List Decl) (h : okSch (2^20) t) : FnS Try.prog 44 [] [agT (eSch t)] [(1000, .row t.length (t.flatMap eDecl))] (.ag [.os 1000 t.length]) := by
  refine FnS.go [0, 1, 2, 3] [] Try.func44 rfl (fun kt kz => ?_)
  have fcx := fc44SSchema
  simp only [Try.f44]
  have ho := okSch_iff.1 h
  refine Run (@eSch_eta) ?_; repeat' (first | (with_reducible exact True.intro) | (with_reducible refine Lf.mk ?_ ?_) | (with_reducible intro hb))
  refine CalI (@eSch_eta) (toTableDeclS_o _ ho 1000) ?_
  refine Run (@eSch_eta) ?_; repeat' (first | (with_reducible exact True.intro) | (with_reducible refine Lf.mk ?_ ?_) | (with_reducible intro hb))

theorem toSchema_o (t : List Decl) (h : okSch (2^20) t) : ∀ q0 : Nat, [q0].Nodup → FnS Try.prog 44 [] [agT (eSch t)] [(q0, .row t.length (t.flatMap eDecl))] (.ag [.os q0 t.length]) := by
  intro q0 hq
  obtain ⟨p, hp⟩ := pml [1000] [q0] (by decide) hq rfl
  simp only [List.map_cons, List.map_nil, List.cons.injEq, and_true] at hp
  refine ((toSchema_w t h).rows.pm p).as ?_ ?_ <;> simp [rowS, rowO, renS, Ob.ren, TV.ren, renL, Cell.ren, hp]

def fc25SSchema := (And.intro (And.intro (And.intro (And.intro sz4 ag4) (And.intro zv4 un4)) (And.intro (And.intro sz43 ag43) (And.intro zv43 sb43))) (And.intro (And.intro (And.intro un43 el43) (And.intro ap43 sz45)) (And.intro (And.intro ag45 zv45) (And.intro fl45_0 (And.intro pl45 okf69)))))
theorem eqSchema_ok (t : List Decl) (h : okSch (2^20) t) : FnS Try.prog 25 [] [agT (eSch t), agT (eSch t)] [] (bT true) := by
  refine FnS.go [0, 1, 2, 3, 4, 10] [] Try.func25 rfl (fun kt kz => ?_)
  have fcx := fc25SSchema
  simp only [Try.f25]
  have ho := okSch_iff.1 h
  refine Run (@eSch_eta) ?_; repeat' (first | (with_reducible exact True.intro) | (with_reducible refine Lf.mk ?_ ?_) | (with_reducible intro hb))
  refine Cal (@eSch_eta) (eqTableDeclS_ok _ ho) ?_
  refine Run (@eSch_eta) ?_; repeat' (first | (with_reducible exact True.intro) | (with_reducible refine Lf.mk ?_ ?_) | (with_reducible intro hb))

theorem toSchema_ok (t : List Decl) (h : okSch (2^20) t) : FnP Try.prog 44 [agT (eSch t)] (agT (eSch t)) := (toSchema_o t h 1000 (by decide)).tree (by simp -dsimp (maxSteps := 2000000) (disch := omega) only [vs, ↓Option.bind_some, ev1, ofV, scalarB, Kn, Kb, calleeOf, evLoad, ptr, evField, evFieldAddr, shift, ↓pt_at, ↓pt_at1, evExtract, evBin, evLen, evConv, cellsT, noS, Cell.has, Cell.hasN, Cell.anyN, toIV, toIV0, toIVs, ownC, srcM, Ob.own, Ob.esz, allSc, nilK, lenC, ownCell, isPtr, ptrNil, frzO, Cell.frz, Cell.keys, ↓reduceIte, reduceCtorEq, Nat.reduceEqDiff, Nat.reduceBEq, Nat.reduceBNe, Nat.reduceAdd, Nat.reduceMul, Nat.reduceSub, Nat.reduceLT, Nat.reduceLeDiff, Nat.reducePow, Int.reduceLT, Int.reduceLE, Int.reduceEq, Int.reduceNe, quietB, Nat.reduceMod, Int.reduceToNat, ne_eq, eq_self, exists_const, evBytes, byRow, byL, byStr_size, ifsz, ByteArray.size_append, Option.none_or, Option.some_or, evLook, keyD, eSch_eta])

end Go.VC.T
/- Data (Type): how they are marked. -/
namespace Go.VC.T
open Go Go.VC Go.Proofs Go.VC.F
set_option linter.unusedSimpArgs false
set_option linter.unusedVariables false
set_option linter.defProp false
set_option maxRecDepth 100000
set_option maxHeartbeats 2000000
def fc123MType := (And.intro (And.intro (And.intro (And.intro sz3 (And.intro ag3 zv3)) (And.intro (And.intro un3 sz4) (And.intro ag4 zv4))) (And.intro (And.intro (And.intro un4 sz63) (And.intro ag63 zv63)) (And.intro (And.intro sb63 un63) (And.intro el63 ap63)))) (And.intro (And.intro (And.intro (And.intro sz75 ag75) (And.intro zv75 sb75)) (And.intro (And.intro un75 el75) (And.intro ap75 sz77))) (And.intro (And.intro (And.intro ag77 zv77) (And.intro fl77_0 fl77_1)) (And.intro (And.intro fl77_2 pl77) (And.intro okf122 okf123)))))
theorem markTypeS_of (xs : List Ty) (H0 : ∀ t ∈ xs, ∀ k : Int, 0 ≤ k ∧ k + (cnL (t.args.flatMap eTy) : Int) ≤ 2^60 → FnS Try.prog 123 [(1, .row t.args.length (t.args.flatMap eTy))] [.c (.os 1 t.args.length), iT k] [(1, .row t.args.length (mkL mT k (t.args.flatMap eTy)))] (iT (k + (cnL (t.args.flatMap eTy) : Int)))) (k : Int) (hk : 0 ≤ k ∧ k + (cnL (xs.flatMap eTy) : Int) ≤ 2^60) : FnS Try.prog 123 [(1, .row xs.length (xs.flatMap eTy))] [.c (.os 1 xs.length), iT k] [(1, .row xs.length (mkL mT k (xs.flatMap eTy)))] (iT (k + (cnL (xs.flatMap eTy) : Int))) := by
  refine FnS.go [0, 1, 4, 5, 9] [] Try.func123 rfl (fun kt kz => ?_)
  have fcx := fc123MType
  simp only [Try.f123]
  have hx : xs.length ≤ 2^60 := by have := cnL_len (E := eTy) (xs := xs); omega
  refine Run (cast_succ) ?_; repeat' (first | (with_reducible exact True.intro) | (with_reducible refine Lf.mk ?_ ?_) | (with_reducible intro hb))
  refine Trn (α := Nat) [1, 5, 6, 7, 8, 9, 10, 11, 12, 13, 14, 15, 16, 17, 18, 19, 20, 21, 22, 23, 24, 25, 26, 27, 28, 29, 30, 31, 32] (fun i => [(5, iT i), (1, iT (k + (cnT eTy xs i : Int)))]) (fun i => [(1, .row xs.length (mkA mT eTy k xs i ++ (xs.drop i).flatMap eTy))]) (fun i => i ≤ xs.length) (fun i => xs.length - i) (0) (Nat.zero_le _) ((And.intro (And.intro (mkA_zero mT (E := eTy) (k := k) (xs := xs)) (cnT_zero (E := eTy) (xs := xs))) (And.intro (List.drop_zero (l := xs)) (And.intro @Int.ofNat_zero @Int.add_zero)))) ?_; intro lx hI; obtain i := lx; (try simp only [List.nil_append, List.cons_append] at hI ⊢)
  by_cases hlt : lx < xs.length
  · have hA : (mkA mT eTy k xs lx).length = lx * 3 := by have := mkA_len mT (E := eTy) (k := k) (Nat.le_of_lt hlt); omega
    have hd := drop_flat (E := eTy) hlt
    rw [eTy_eta] at hd
    have hc := cnT_le (E := eTy) (xs := xs) (i := lx + 1)
    have ecn : cnT eTy xs (lx + 1) = cnT eTy xs lx + (1 + cnL (xs[lx].labels.flatMap eS) + cnL (xs[lx].args.flatMap eTy)) := by rw [cnT_succ hlt]; (simp only [eTy_eta, slI, cnL_i, cnL_s, cnL_l, cnL_n]) <;> omega
    have e : k + (cnT eTy xs lx : Int) + 1 + (cnL (xs[lx].labels.flatMap eS) : Int) + (cnL (xs[lx].args.flatMap eTy) : Int) = k + (cnT eTy xs (lx + 1) : Int) := by omega
    have ec : mkA mT eTy k xs lx ++ (.sc (.int .i64 (k + (cnT eTy xs lx : Int))) :: .sl xs[lx].labels.length (mkL mT (k + (cnT eTy xs lx : Int) + 1) (xs[lx].labels.flatMap eS)) :: .sl xs[lx].args.length (mkL mT (k + (cnT eTy xs lx : Int) + 1 + (cnL (xs[lx].labels.flatMap eS) : Int)) (xs[lx].args.flatMap eTy)) :: (xs.drop (lx + 1)).flatMap eTy) = mkA mT eTy k xs (lx + 1) ++ (xs.drop (lx + 1)).flatMap eTy := by rw [mkA_succ mT hlt]; simp only [eTy_eta, slI, mkL_i, mkL_s, mkL_l, mkL_n, List.append_assoc, List.cons_append, List.nil_append]
    refine Run ((And.intro (And.intro (And.intro @hd @hlt) (And.intro @ivl (And.intro @iv0 @ivs))) (And.intro (And.intro @ownCells_get (And.intro (mid_set0 hA) (mid_set 1 hA))) (And.intro (mid_get 1 hA) (And.intro (mid_set 2 hA) (mid_get 2 hA)))))) ?_; repeat' (first | (with_reducible exact True.intro) | (with_reducible refine Lf.mk ?_ ?_) | (with_reducible intro hb))
    refine CalN (⟨⟩ : Nsk (1) (1) ((lx * 3 + 1))) ((And.intro (And.intro (And.intro @hd @hlt) (And.intro @ivl (And.intro @iv0 @ivs))) (And.intro (And.intro @ownCells_get (And.intro (mid_set0 hA) (mid_set 1 hA))) (And.intro (mid_get 1 hA) (And.intro (mid_set 2 hA) (mid_get 2 hA)))))) (markStringS_ok (xs[lx].labels) (k + (cnT eTy xs lx : Int) + 1) ⟨by omega, by omega⟩) ?_
    refine Run ((And.intro (And.intro (And.intro @hd @hlt) (And.intro @ivl (And.intro @iv0 @ivs))) (And.intro (And.intro @ownCells_get (And.intro (mid_set0 hA) (mid_set 1 hA))) (And.intro (mid_get 1 hA) (And.intro (mid_set 2 hA) (mid_get 2 hA)))))) ?_; repeat' (first | (with_reducible exact True.intro) | (with_reducible refine Lf.mk ?_ ?_) | (with_reducible intro hb))
    refine CalN (⟨⟩ : Nsk (1) (1) ((lx * 3 + 2))) ((And.intro (And.intro (And.intro @hd @hlt) (And.intro @ivl (And.intro @iv0 @ivs))) (And.intro (And.intro @ownCells_get (And.intro (mid_set0 hA) (mid_set 1 hA))) (And.intro (mid_get 1 hA) (And.intro (mid_set 2 hA) (mid_get 2 hA)))))) (H0 _ (List.getElem_mem hlt) (k + (cnT eTy xs lx : Int) + 1 + (cnL (xs[lx].labels.flatMap eS) : Int)) ⟨by omega, by omega⟩) ?_
    refine Run ((And.intro (And.intro (And.intro @hd @hlt) (And.intro @ivl (And.intro @iv0 @ivs))) (And.intro (And.intro @ownCells_get (And.intro (mid_set0 hA) (mid_set 1 hA))) (And.intro (mid_get 1 hA) (And.intro (mid_set 2 hA) (mid_get 2 hA)))))) ?_; repeat' (first | (with_reducible exact True.intro) | (with_reducible refine Lf.mk ?_ ?_) | (with_reducible intro hb))
    exact Nxt ((And.intro @e @ec)) (lx + 1) (by omega) (by first | omega | (simp; omega))
  · have hge : xs.length ≤ lx := by omega
    have e1 := cnT_all (E := eTy) hge
    have e2 := mkA_all mT (E := eTy) (k := k) hge
    have e3 := drop_all (E := eTy) hge
    refine Run ((And.intro (And.intro @e1 @e2) (And.intro @e3 @hlt))) ?_; repeat' (first | (with_reducible exact True.intro) | (with_reducible refine Lf.mk ?_ ?_) | (with_reducible intro hb))

theorem markTypeS_ok (xs : List Ty) (k : Int) (hk : 0 ≤ k ∧ k + (cnL (xs.flatMap eTy) : Int) ≤ 2^60) : FnS Try.prog 123 [(1, .row xs.length (xs.flatMap eTy))] [.c (.os 1 xs.length), iT k] [(1, .row xs.length (mkL mT k (xs.flatMap eTy)))] (iT (k + (cnL (xs.flatMap eTy) : Int))) := markTypeS_of xs (fun t ht => markTypeS_ok (t.args)) k hk
termination_by SizeOf.sizeOf xs
decreasing_by all_goals (have := List.sizeOf_lt_of_mem ht; first | (have := Ty.lt_args t; omega) | (have := Val.lt_args t; omega) | (have := Tm.lt_args t; omega) | (have := Pl.lt_args t; omega) | (have := Hd.lt_parts t; omega) | (have := Hd.lt_query t; omega) | (have := Cmp.lt_parts t; omega) | (have := Cmp.lt_query t; omega))
theorem markTypeS_q (xs : List Ty) (k : Int) (hk : 0 ≤ k ∧ k + (cnL (xs.flatMap eTy) : Int) ≤ 2^60) (q : Nat) : FnS Try.prog 123 [(q, .row xs.length (xs.flatMap eTy))] [.c (.os q xs.length), iT k] [(q, .row xs.length (mkL mT k (xs.flatMap eTy)))] (iT (k + (cnL (xs.flatMap eTy) : Int))) := by
  obtain ⟨p, hp⟩ := pm1 1 q
  refine ((markTypeS_ok xs k hk).renA p).asA ?_ ?_ ?_ ?_ <;> simp [renS, Ob.ren, TV.ren, Cell.ren, hp]
def fc125MType := (And.intro (And.intro (And.intro (And.intro sz3 (And.intro ag3 zv3)) (And.intro (And.intro un3 sz4) (And.intro ag4 zv4))) (And.intro (And.intro (And.intro un4 sz63) (And.intro ag63 zv63)) (And.intro (And.intro sb63 un63) (And.intro el63 ap63)))) (And.intro (And.intro (And.intro (And.intro sz75 ag75) (And.intro zv75 sb75)) (And.intro (And.intro un75 el75) (And.intro ap75 sz77))) (And.intro (And.intro (And.intro ag77 zv77) (And.intro fl77_0 fl77_1)) (And.intro (And.intro fl77_2 pl77) (And.intro okf124 okf125)))))
theorem heldTypeS_of (xs : List Ty) (H0 : ∀ t ∈ xs, ∀ k : Int, 0 ≤ k ∧ k + (cnL (t.args.flatMap eTy) : Int) ≤ 2^60 → FnP Try.prog 125 [.c (.im (.sl t.args.length (mkL mT k (t.args.flatMap eTy)))), iT k] (iT (k + (cnL (t.args.flatMap eTy) : Int)))) (k : Int) (hk : 0 ≤ k ∧ k + (cnL (xs.flatMap eTy) : Int) ≤ 2^60) : FnS Try.prog 125 [] [.c (.im (.sl xs.length (mkL mT k (xs.flatMap eTy)))), iT k] [] (iT (k + (cnL (xs.flatMap eTy) : Int))) := by
  refine FnS.go [0, 1, 4, 5, 9, 18, 29, 38] [] Try.func125 rfl (fun kt kz => ?_)
  have fcx := fc125MType
  simp only [Try.f125]
  have hx : xs.length ≤ 2^60 := by have := cnL_len (E := eTy) (xs := xs); omega
  refine Run (cast_succ) ?_; repeat' (first | (with_reducible exact True.intro) | (with_reducible refine Lf.mk ?_ ?_) | (with_reducible intro hb))
  refine Trn (α := Nat) [1, 4, 5, 6, 7, 8, 9, 10, 11, 12, 13, 14, 15, 16, 17, 18, 19, 20, 21, 22, 23, 24, 25, 26, 27, 28, 29, 30, 31, 32, 33, 34, 35, 36, 37, 38] (fun i => [(5, iT i), (1, iT (k + (cnT eTy xs i : Int)))]) (fun i => []) (fun i => i ≤ xs.length) (fun i => xs.length - i) (0) (Nat.zero_le _) ((And.intro (cnT_zero (E := eTy) (xs := xs)) (And.intro @Int.ofNat_zero @Int.add_zero))) ?_; intro lx hI; obtain i := lx; (try simp only [List.nil_append, List.cons_append] at hI ⊢)
  by_cases hlt : lx < xs.length
  · have hp := pt_mk mT (E := eTy) (k := k) hlt
    simp only [eTy_eta, slI, mkL_i, mkL_s, mkL_l, mkL_n, List.cons_append, List.nil_append] at hp
    have hc := cnT_le (E := eTy) (xs := xs) (i := lx + 1)
    have ecn : cnT eTy xs (lx + 1) = cnT eTy xs lx + (1 + cnL (xs[lx].labels.flatMap eS) + cnL (xs[lx].args.flatMap eTy)) := by rw [cnT_succ hlt]; (simp only [eTy_eta, slI, cnL_i, cnL_s, cnL_l, cnL_n]) <;> omega
    have e : k + (cnT eTy xs lx : Int) + 1 + (cnL (xs[lx].labels.flatMap eS) : Int) + (cnL (xs[lx].args.flatMap eTy) : Int) = k + (cnT eTy xs (lx + 1) : Int) := by omega
    refine Run ((And.intro @hp @hlt)) ?_; repeat' (first | (with_reducible exact True.intro) | (with_reducible refine Lf.mk ?_ ?_) | (with_reducible intro hb))
    refine Cal ((And.intro @hp @hlt)) (heldStringS_ok (xs[lx].labels) (k + (cnT eTy xs lx : Int) + 1) ⟨by omega, by omega⟩) ?_
    have hn1 : ((k + (cnT eTy xs lx : Int) + 1 + (cnL (xs[lx].labels.flatMap eS) : Int)) < 0) = False := eq_false (by omega)
    refine Run ((And.intro @hp (And.intro @hlt @hn1))) ?_; repeat' (first | (with_reducible exact True.intro) | (with_reducible refine Lf.mk ?_ ?_) | (with_reducible intro hb))
    refine Cal ((And.intro @hp (And.intro @hlt @hn1))) (H0 _ (List.getElem_mem hlt) (k + (cnT eTy xs lx : Int) + 1 + (cnL (xs[lx].labels.flatMap eS) : Int)) ⟨by omega, by omega⟩) ?_
    have hn2 : ((k + (cnT eTy xs lx : Int) + 1 + (cnL (xs[lx].labels.flatMap eS) : Int) + (cnL (xs[lx].args.flatMap eTy) : Int)) < 0) = False := eq_false (by omega)
    refine Run ((And.intro (And.intro @hp @hlt) (And.intro @hn1 @hn2))) ?_; repeat' (first | (with_reducible exact True.intro) | (with_reducible refine Lf.mk ?_ ?_) | (with_reducible intro hb))
    exact Nxt (@e) (lx + 1) (by omega) (by first | omega | (simp; omega))
  · have hge : xs.length ≤ lx := by omega
    have e1 := cnT_all (E := eTy) hge
    refine Run ((And.intro @e1 @hlt)) ?_; repeat' (first | (with_reducible exact True.intro) | (with_reducible refine Lf.mk ?_ ?_) | (with_reducible intro hb))

theorem heldTypeS_ok (xs : List Ty) (k : Int) (hk : 0 ≤ k ∧ k + (cnL (xs.flatMap eTy) : Int) ≤ 2^60) : FnP Try.prog 125 [.c (.im (.sl xs.length (mkL mT k (xs.flatMap eTy)))), iT k] (iT (k + (cnL (xs.flatMap eTy) : Int))) := heldTypeS_of xs (fun t ht => heldTypeS_ok (t.args)) k hk
termination_by SizeOf.sizeOf xs
decreasing_by all_goals (have := List.sizeOf_lt_of_mem ht; first | (have := Ty.lt_args t; omega) | (have := Val.lt_args t; omega) | (have := Tm.lt_args t; omega) | (have := Pl.lt_args t; omega) | (have := Hd.lt_parts t; omega) | (have := Hd.lt_query t; omega) | (have := Cmp.lt_parts t; omega) | (have := Cmp.lt_query t; omega))

end Go.VC.T
/- Data (TableDecl): how they are marked. -/
namespace Go.VC.T
open Go Go.VC Go.Proofs Go.VC.F
set_option linter.unusedSimpArgs false
set_option linter.unusedVariables false
set_option linter.defProp false
set_option maxRecDepth 100000
set_option maxHeartbeats 2000000
def fc70MTableDecl := (And.intro (And.intro (And.intro (And.intro (And.intro sz3 (And.intro ag3 zv3)) (And.intro un3 (And.intro sz4 ag4))) (And.intro (And.intro zv4 (And.intro un4 sz9)) (And.intro ag9 (And.intro zv9 un9)))) (And.intro (And.intro (And.intro sz43 (And.intro ag43 zv43)) (And.intro sb43 (And.intro un43 el43))) (And.intro (And.intro ap43 (And.intro sz63 ag63)) (And.intro zv63 (And.intro sb63 un63))))) (And.intro (And.intro (And.intro (And.intro el63 (And.intro ap63 sz75)) (And.intro ag75 (And.intro zv75 sb75))) (And.intro (And.intro un75 (And.intro el75 ap75)) (And.intro sz77 (And.intro ag77 zv77)))) (And.intro (And.intro (And.intro fl77_0 (And.intro fl77_1 fl77_2)) (And.intro pl77 (And.intro sz117 ag117))) (And.intro (And.intro zv117 (And.intro fl117_0 fl117_1)) (And.intro (And.intro pl117 okf121) (And.intro okf122 okf123))))))
theorem markTableDeclS_of (xs : List Decl) (k : Int) (hk : 0 ≤ k ∧ k + (cnL (xs.flatMap eDecl) : Int) ≤ 2^60) : FnS Try.prog 70 [(1, .row xs.length (xs.flatMap eDecl))] [.c (.os 1 xs.length), iT k] [(1, .row xs.length (mkL mT k (xs.flatMap eDecl)))] (iT (k + (cnL (xs.flatMap eDecl) : Int))) := by
  refine FnS.go [0, 1, 4, 5, 9] [] Try.func70 rfl (fun kt kz => ?_)
  have fcx := fc70MTableDecl
  simp only [Try.f70]
  have hx : xs.length ≤ 2^60 := by have := cnL_len (E := eDecl) (xs := xs); omega
  refine Run (cast_succ) ?_; repeat' (first | (with_reducible exact True.intro) | (with_reducible refine Lf.mk ?_ ?_) | (with_reducible intro hb))
  refine Trn (α := Nat) [1, 5, 6, 7, 8, 9, 10, 11, 12, 13, 14, 15, 16, 17, 18, 19, 20, 21, 22, 23, 24, 25, 26, 27, 28, 29, 30, 31, 32, 33, 34, 35, 36, 37, 38, 39, 40, 41, 42, 43] (fun i => [(5, iT i), (1, iT (k + (cnT eDecl xs i : Int)))]) (fun i => [(1, .row xs.length (mkA mT eDecl k xs i ++ (xs.drop i).flatMap eDecl))]) (fun i => i ≤ xs.length) (fun i => xs.length - i) (0) (Nat.zero_le _) ((And.intro (And.intro (mkA_zero mT (E := eDecl) (k := k) (xs := xs)) (cnT_zero (E := eDecl) (xs := xs))) (And.intro (List.drop_zero (l := xs)) (And.intro @Int.ofNat_zero @Int.add_zero)))) ?_; intro lx hI; obtain i := lx; (try simp only [List.nil_append, List.cons_append] at hI ⊢)
  by_cases hlt : lx < xs.length
  · have hA : (mkA mT eDecl k xs lx).length = lx * 4 := by have := mkA_len mT (E := eDecl) (k := k) (Nat.le_of_lt hlt); omega
    have hd := drop_flat (E := eDecl) hlt
    rw [eDecl_eta] at hd
    have hc := cnT_le (E := eDecl) (xs := xs) (i := lx + 1)
    have ecn : cnT eDecl xs (lx + 1) = cnT eDecl xs lx + (1 + 1 + cnL (xs[lx].row.labels.flatMap eS) + cnL (xs[lx].row.args.flatMap eTy)) := by rw [cnT_succ hlt]; (simp only [eDecl_eta, slI, cnL_i, cnL_s, cnL_l, cnL_n]) <;> omega
    have e : k + (cnT eDecl xs lx : Int) + 1 + 1 + (cnL (xs[lx].row.labels.flatMap eS) : Int) + (cnL (xs[lx].row.args.flatMap eTy) : Int) = k + (cnT eDecl xs (lx + 1) : Int) := by omega
    have ec : mkA mT eDecl k xs lx ++ (.sc (.string (mT (k + (cnT eDecl xs lx : Int)))) :: .sc (.int .i64 (k + (cnT eDecl xs lx : Int) + 1)) :: .sl xs[lx].row.labels.length (mkL mT (k + (cnT eDecl xs lx : Int) + 1 + 1) (xs[lx].row.labels.flatMap eS)) :: .sl xs[lx].row.args.length (mkL mT (k + (cnT eDecl xs lx : Int) + 1 + 1 + (cnL (xs[lx].row.labels.flatMap eS) : Int)) (xs[lx].row.args.flatMap eTy)) :: (xs.drop (lx + 1)).flatMap eDecl) = mkA mT eDecl k xs (lx + 1) ++ (xs.drop (lx + 1)).flatMap eDecl := by rw [mkA_succ mT hlt]; simp only [eDecl_eta, slI, mkL_i, mkL_s, mkL_l, mkL_n, List.append_assoc, List.cons_append, List.nil_append]
    refine Run ((And.intro (And.intro (And.intro @hd (And.intro @hlt @ivl)) (And.intro @iv0 (And.intro @ivs @ownCells_get))) (And.intro (And.intro (mid_set0 hA) (And.intro (mid_set 1 hA) (mid_set 2 hA))) (And.intro (mid_get 2 hA) (And.intro (mid_set 3 hA) (mid_get 3 hA)))))) ?_; repeat' (first | (with_reducible exact True.intro) | (with_reducible refine Lf.mk ?_ ?_) | (with_reducible intro hb))
    refine Cal ((And.intro (And.intro (And.intro @hd (And.intro @hlt @ivl)) (And.intro @iv0 (And.intro @ivs @ownCells_get))) (And.intro (And.intro (mid_set0 hA) (And.intro (mid_set 1 hA) (mid_set 2 hA))) (And.intro (mid_get 2 hA) (And.intro (mid_set 3 hA) (mid_get 3 hA)))))) (markText_ok (k + (cnT eDecl xs lx : Int)) (by omega)) ?_
    refine Run ((And.intro (And.intro (And.intro @hd (And.intro @hlt @ivl)) (And.intro @iv0 (And.intro @ivs @ownCells_get))) (And.intro (And.intro (mid_set0 hA) (And.intro (mid_set 1 hA) (mid_set 2 hA))) (And.intro (mid_get 2 hA) (And.intro (mid_set 3 hA) (mid_get 3 hA)))))) ?_; repeat' (first | (with_reducible exact True.intro) | (with_reducible refine Lf.mk ?_ ?_) | (with_reducible intro hb))
    refine CalN (⟨⟩ : Nsk (1) (1) ((lx * 4 + 2))) ((And.intro (And.intro (And.intro @hd (And.intro @hlt @ivl)) (And.intro @iv0 (And.intro @ivs @ownCells_get))) (And.intro (And.intro (mid_set0 hA) (And.intro (mid_set 1 hA) (mid_set 2 hA))) (And.intro (mid_get 2 hA) (And.intro (mid_set 3 hA) (mid_get 3 hA)))))) (markStringS_ok (xs[lx].row.labels) (k + (cnT eDecl xs lx : Int) + 1 + 1) ⟨by omega, by omega⟩) ?_
    refine Run ((And.intro (And.intro (And.intro @hd (And.intro @hlt @ivl)) (And.intro @iv0 (And.intro @ivs @ownCells_get))) (And.intro (And.intro (mid_set0 hA) (And.intro (mid_set 1 hA) (mid_set 2 hA))) (And.intro (mid_get 2 hA) (And.intro (mid_set 3 hA) (mid_get 3 hA)))))) ?_; repeat' (first | (with_reducible exact True.intro) | (with_reducible refine Lf.mk ?_ ?_) | (with_reducible intro hb))
    refine CalN (⟨⟩ : Nsk (1) (1) ((lx * 4 + 3))) ((And.intro (And.intro (And.intro @hd (And.intro @hlt @ivl)) (And.intro @iv0 (And.intro @ivs @ownCells_get))) (And.intro (And.intro (mid_set0 hA) (And.intro (mid_set 1 hA) (mid_set 2 hA))) (And.intro (mid_get 2 hA) (And.intro (mid_set 3 hA) (mid_get 3 hA)))))) (markTypeS_ok (xs[lx].row.args) (k + (cnT eDecl xs lx : Int) + 1 + 1 + (cnL (xs[lx].row.labels.flatMap eS) : Int)) ⟨by omega, by omega⟩) ?_
    refine Run ((And.intro (And.intro (And.intro @hd (And.intro @hlt @ivl)) (And.intro @iv0 (And.intro @ivs @ownCells_get))) (And.intro (And.intro (mid_set0 hA) (And.intro (mid_set 1 hA) (mid_set 2 hA))) (And.intro (mid_get 2 hA) (And.intro (mid_set 3 hA) (mid_get 3 hA)))))) ?_; repeat' (first | (with_reducible exact True.intro) | (with_reducible refine Lf.mk ?_ ?_) | (with_reducible intro hb))
    exact Nxt ((And.intro @e @ec)) (lx + 1) (by omega) (by first | omega | (simp; omega))
  · have hge : xs.length ≤ lx := by omega
    have e1 := cnT_all (E := eDecl) hge
    have e2 := mkA_all mT (E := eDecl) (k := k) hge
    have e3 := drop_all (E := eDecl) hge
    refine Run ((And.intro (And.intro @e1 @e2) (And.intro @e3 @hlt))) ?_; repeat' (first | (with_reducible exact True.intro) | (with_reducible refine Lf.mk ?_ ?_) | (with_reducible intro hb))

theorem markTableDeclS_ok (xs : List Decl) (k : Int) (hk : 0 ≤ k ∧ k + (cnL (xs.flatMap eDecl) : Int) ≤ 2^60) : FnS Try.prog 70 [(1, .row xs.length (xs.flatMap eDecl))] [.c (.os 1 xs.length), iT k] [(1, .row xs.length (mkL mT k (xs.flatMap eDecl)))] (iT (k + (cnL (xs.flatMap eDecl) : Int))) := markTableDeclS_of xs k hk
theorem markTableDeclS_q (xs : List Decl) (k : Int) (hk : 0 ≤ k ∧ k + (cnL (xs.flatMap eDecl) : Int) ≤ 2^60) (q : Nat) : FnS Try.prog 70 [(q, .row xs.length (xs.flatMap eDecl))] [.c (.os q xs.length), iT k] [(q, .row xs.length (mkL mT k (xs.flatMap eDecl)))] (iT (k + (cnL (xs.flatMap eDecl) : Int))) := by
  obtain ⟨p, hp⟩ := pm1 1 q
  refine ((markTableDeclS_ok xs k hk).renA p).asA ?_ ?_ ?_ ?_ <;> simp [renS, Ob.ren, TV.ren, Cell.ren, hp]
def fc71MTableDecl := (And.intro (And.intro (And.intro (And.intro (And.intro sz3 (And.intro ag3 zv3)) (And.intro un3 (And.intro sz4 ag4))) (And.intro (And.intro zv4 (And.intro un4 sz9)) (And.intro ag9 (And.intro zv9 un9)))) (And.intro (And.intro (And.intro sz43 (And.intro ag43 zv43)) (And.intro sb43 (And.intro un43 el43))) (And.intro (And.intro ap43 (And.intro sz63 ag63)) (And.intro zv63 (And.intro sb63 un63))))) (And.intro (And.intro (And.intro (And.intro el63 (And.intro ap63 sz75)) (And.intro ag75 (And.intro zv75 sb75))) (And.intro (And.intro un75 (And.intro el75 ap75)) (And.intro sz77 (And.intro ag77 zv77)))) (And.intro (And.intro (And.intro fl77_0 (And.intro fl77_1 fl77_2)) (And.intro pl77 (And.intro sz117 ag117))) (And.intro (And.intro zv117 (And.intro fl117_0 fl117_1)) (And.intro (And.intro pl117 okf121) (And.intro okf124 okf125))))))
theorem heldTableDeclS_of (xs : List Decl) (k : Int) (hk : 0 ≤ k ∧ k + (cnL (xs.flatMap eDecl) : Int) ≤ 2^60) : FnS Try.prog 71 [] [.c (.im (.sl xs.length (mkL mT k (xs.flatMap eDecl)))), iT k] [] (iT (k + (cnL (xs.flatMap eDecl) : Int))) := by
  refine FnS.go [0, 1, 4, 5, 9, 19, 29, 41, 51] [] Try.func71 rfl (fun kt kz => ?_)
  have fcx := fc71MTableDecl
  simp only [Try.f71]
  have hx : xs.length ≤ 2^60 := by have := cnL_len (E := eDecl) (xs := xs); omega
  refine Run (cast_succ) ?_; repeat' (first | (with_reducible exact True.intro) | (with_reducible refine Lf.mk ?_ ?_) | (with_reducible intro hb))
  refine Trn (α := Nat) [1, 4, 5, 6, 7, 8, 9, 10, 11, 12, 13, 14, 15, 16, 17, 18, 19, 20, 21, 22, 23, 24, 25, 26, 27, 28, 29, 30, 31, 32, 33, 34, 35, 36, 37, 38, 39, 40, 41, 42, 43, 44, 45, 46, 47, 48, 49, 50, 51] (fun i => [(5, iT i), (1, iT (k + (cnT eDecl xs i : Int)))]) (fun i => []) (fun i => i ≤ xs.length) (fun i => xs.length - i) (0) (Nat.zero_le _) ((And.intro (cnT_zero (E := eDecl) (xs := xs)) (And.intro @Int.ofNat_zero @Int.add_zero))) ?_; intro lx hI; obtain i := lx; (try simp only [List.nil_append, List.cons_append] at hI ⊢)
  by_cases hlt : lx < xs.length
  · have hp := pt_mk mT (E := eDecl) (k := k) hlt
    simp only [eDecl_eta, slI, mkL_i, mkL_s, mkL_l, mkL_n, List.cons_append, List.nil_append] at hp
    have hc := cnT_le (E := eDecl) (xs := xs) (i := lx + 1)
    have ecn : cnT eDecl xs (lx + 1) = cnT eDecl xs lx + (1 + 1 + cnL (xs[lx].row.labels.flatMap eS) + cnL (xs[lx].row.args.flatMap eTy)) := by rw [cnT_succ hlt]; (simp only [eDecl_eta, slI, cnL_i, cnL_s, cnL_l, cnL_n]) <;> omega
    have e : k + (cnT eDecl xs lx : Int) + 1 + 1 + (cnL (xs[lx].row.labels.flatMap eS) : Int) + (cnL (xs[lx].row.args.flatMap eTy) : Int) = k + (cnT eDecl xs (lx + 1) : Int) := by omega
    refine Run ((And.intro @hp @hlt)) ?_; repeat' (first | (with_reducible exact True.intro) | (with_reducible refine Lf.mk ?_ ?_) | (with_reducible intro hb))
    refine Cal ((And.intro @hp @hlt)) (markText_ok (k + (cnT eDecl xs lx : Int)) (by omega)) ?_
    refine Run ((And.intro @hp @hlt)) ?_; repeat' (first | (with_reducible exact True.intro) | (with_reducible refine Lf.mk ?_ ?_) | (with_reducible intro hb))
    refine Cal ((And.intro @hp @hlt)) (heldStringS_ok (xs[lx].row.labels) (k + (cnT eDecl xs lx : Int) + 1 + 1) ⟨by omega, by omega⟩) ?_
    have hn2 : ((k + (cnT eDecl xs lx : Int) + 1 + 1 + (cnL (xs[lx].row.labels.flatMap eS) : Int)) < 0) = False := eq_false (by omega)
    refine Run ((And.intro @hp (And.intro @hlt @hn2))) ?_; repeat' (first | (with_reducible exact True.intro) | (with_reducible refine Lf.mk ?_ ?_) | (with_reducible intro hb))
    refine Cal ((And.intro @hp (And.intro @hlt @hn2))) (heldTypeS_ok (xs[lx].row.args) (k + (cnT eDecl xs lx : Int) + 1 + 1 + (cnL (xs[lx].row.labels.flatMap eS) : Int)) ⟨by omega, by omega⟩) ?_
    have hn3 : ((k + (cnT eDecl xs lx : Int) + 1 + 1 + (cnL (xs[lx].row.labels.flatMap eS) : Int) + (cnL (xs[lx].row.args.flatMap eTy) : Int)) < 0) = False := eq_false (by omega)
    refine Run ((And.intro (And.intro @hp @hlt) (And.intro @hn2 @hn3))) ?_; repeat' (first | (with_reducible exact True.intro) | (with_reducible refine Lf.mk ?_ ?_) | (with_reducible intro hb))
    exact Nxt (@e) (lx + 1) (by omega) (by first | omega | (simp; omega))
  · have hge : xs.length ≤ lx := by omega
    have e1 := cnT_all (E := eDecl) hge
    refine Run ((And.intro @e1 @hlt)) ?_; repeat' (first | (with_reducible exact True.intro) | (with_reducible refine Lf.mk ?_ ?_) | (with_reducible intro hb))

theorem heldTableDeclS_ok (xs : List Decl) (k : Int) (hk : 0 ≤ k ∧ k + (cnL (xs.flatMap eDecl) : Int) ≤ 2^60) : FnP Try.prog 71 [.c (.im (.sl xs.length (mkL mT k (xs.flatMap eDecl)))), iT k] (iT (k + (cnL (xs.flatMap eDecl) : Int))) := heldTableDeclS_of xs k hk

end Go.VC.T
/- Data (Schema): how they are marked. -/
namespace Go.VC.T
open Go Go.VC Go.Proofs Go.VC.F
set_option linter.unusedSimpArgs false
set_option linter.unusedVariables false
set_option linter.defProp false
set_option maxRecDepth 100000
set_option maxHeartbeats 2000000
def fc26MSchema := (And.intro (And.intro (And.intro (And.intro sz3 ag3) (And.intro zv3 un3)) (And.intro (And.intro sz43 ag43) (And.intro zv43 sb43))) (And.intro (And.intro (And.intro un43 el43) (And.intro ap43 sz45)) (And.intro (And.intro ag45 zv45) (And.intro fl45_0 (And.intro pl45 okf70)))))
theorem markSchema_w (t : List Decl) (k : Int) (hk : 0 ≤ k ∧ k + (cnL (t.flatMap eDecl) : Int) ≤ 2^60) : FnS Try.prog 26 [(1, .row t.length (t.flatMap eDecl))] [.ag [.os 1 t.length], iT k] [(1, .row t.length (mkL mT (k) (t.flatMap eDecl)))] (iT (k + (cnL (t.flatMap eDecl) : Int))) := by
  refine FnS.go [0, 1, 2, 4] [] Try.func26 rfl (fun kt kz => ?_)
  have fcx := fc26MSchema
  simp only [Try.f26]
  refine Run (cast_succ) ?_; repeat' (first | (with_reducible exact True.intro) | (with_reducible refine Lf.mk ?_ ?_) | (with_reducible intro hb))
  refine CalO (cast_succ) (markTableDeclS_q t (k) ⟨by omega, by omega⟩ 1) ?_
  refine Run (cast_succ) ?_; repeat' (first | (with_reducible exact True.intro) | (with_reducible refine Lf.mk ?_ ?_) | (with_reducible intro hb))

theorem markSchema_q (t : List Decl) (k : Int) (hk : 0 ≤ k ∧ k + (cnL (t.flatMap eDecl) : Int) ≤ 2^60) (q0 : Nat) (hq : [q0].Nodup) : FnS Try.prog 26 [(q0, .row t.length (t.flatMap eDecl))] [.ag [.os q0 t.length], iT k] [(q0, .row t.length (mkL mT (k) (t.flatMap eDecl)))] (iT (k + (cnL (t.flatMap eDecl) : Int))) := by
  obtain ⟨p, hp⟩ := pml [1] [q0] (by decide) hq rfl
  simp only [List.map_cons, List.map_nil, List.cons.injEq, and_true] at hp
  refine ((markSchema_w t k hk).renA p).asA ?_ ?_ ?_ ?_ <;> simp [renS, Ob.ren, TV.ren, renL, Cell.ren, hp]
def hSchema (k : Int) (t : List Decl) : List IV := [.sl t.length (mkL mT (k) (t.flatMap eDecl))]
def fc27MSchema := (And.intro (And.intro (And.intro (And.intro sz3 ag3) (And.intro zv3 (And.intro un3 sz4))) (And.intro (And.intro ag4 zv4) (And.intro un4 (And.intro sz43 ag43)))) (And.intro (And.intro (And.intro zv43 sb43) (And.intro un43 (And.intro el43 ap43))) (And.intro (And.intro sz45 (And.intro ag45 zv45)) (And.intro fl45_0 (And.intro pl45 okf71)))))
theorem heldSchema_ok (t : List Decl) (k : Int) (hk : 0 ≤ k ∧ k + (cnL (t.flatMap eDecl) : Int) ≤ 2^60) : FnS Try.prog 27 [] [agT (hSchema k t), iT k] [] (iT (k + (cnL (t.flatMap eDecl) : Int))) := by
  refine FnS.go [0, 1, 2, 4, 10] [] Try.func27 rfl (fun kt kz => ?_)
  have fcx := fc27MSchema
  simp only [Try.f27]
  refine Run (@hSchema.eq_1) ?_; repeat' (first | (with_reducible exact True.intro) | (with_reducible refine Lf.mk ?_ ?_) | (with_reducible intro hb))
  refine Cal (@hSchema.eq_1) (heldTableDeclS_ok t (k) ⟨by omega, by omega⟩) ?_
  have hn1 : ((k + (cnL (t.flatMap eDecl) : Int)) < 0) = False := eq_false (by omega)
  refine Run ((And.intro @hSchema.eq_1 @hn1)) ?_; repeat' (first | (with_reducible exact True.intro) | (with_reducible refine Lf.mk ?_ ?_) | (with_reducible intro hb))


end Go.VC.T
/- ParseType by the program; the schema of the examples on both sides. -/
namespace Go.VC
open Go
theorem anyTV_cons (a : TV) (l : List TV) (f : TV → Bool) : (a :: l).any f = (f a || l.any f) := rfl
theorem anyTV_nil (f : TV → Bool) : ([] : List TV).any f = false := rfl
theorem orFF : (false || false) = false := rfl
/-- A name, told by computing. -/
def okCB (s : ByteArray) (i : Nat) : Bool := (decide (97 ≤ bt s i) && decide (bt s i ≤ 122)) || (decide (i ≠ 0) && decide (48 ≤ bt s i) && decide (bt s i ≤ 57))
def nameB (s : ByteArray) : Bool := ((List.range s.size).all fun j => okCB s j) && (decide (1 ≤ s.size) && decide (s.size ≤ 4)) && (!decide (s.data = #[105, 102]) && !decide (s.data = #[102, 111, 114]))
theorem baEq {s : ByteArray} {d : Array UInt8} : s = ⟨d⟩ ↔ s.data = d := by cases s; simp
theorem nameB_eq (s : ByteArray) : decide (NameOk s) = nameB s := by
  rw [Bool.eq_iff_iff, decide_eq_true_eq]
  unfold NameOk nameB okCB okC
  simp only [Bool.and_eq_true, Bool.or_eq_true, decide_eq_true_eq, List.all_eq_true, List.mem_range, Bool.not_eq_true', decide_eq_false_iff_not, baEq, and_assoc]
def pFieldsC (s : ByteArray) (rec : Nat → Bool → PR) : Nat → List ByteArray → List Ty → Nat → Bool → Bool → List ByteArray × List Ty × Nat × Bool
  | 0, L, A, p, b, _ => (L, A, p, b)
  | m + 1, L, A, p, b, more => if more && !b then
      let w := wordS s p b
      let p1 := wordP s p b
      let b1 := b || !nameB w
      let p2 := takeP s p1 b1 ⟨#[58]⟩
      let b2 := !nextB s p1 b1 ⟨#[58]⟩
      let r := rec p2 b2
      pFieldsC s rec m (L ++ [w]) (A ++ [r.1]) (takeP s r.2.1 r.2.2 ⟨#[44]⟩) r.2.2 (nextB s r.2.1 r.2.2 ⟨#[44]⟩)
    else (L, A, p, b)
def pTyC (s : ByteArray) : Nat → Nat → Bool → PR
  | 0, p, _ => (tZero, p, true)
  | n + 1, p, b =>
    if nextB s p b ⟨#[73]⟩ = true then (.mk 1 [] [], p + 1, b)
    else if nextB s p b ⟨#[66]⟩ = true then (.mk 2 [] [], p + 1, b)
    else if nextB s p b ⟨#[91]⟩ = true then
      let r := pTyC s n (p + 1) b
      (.mk 4 [] [r.1], takeP s r.2.1 r.2.2 ⟨#[93]⟩, !nextB s r.2.1 r.2.2 ⟨#[93]⟩)
    else if nextB s p b ⟨#[40]⟩ = true then
      let r := pTyC s n (p + 1) b
      let u := pTyC s n (takeP s r.2.1 r.2.2 ⟨#[62]⟩) (!nextB s r.2.1 r.2.2 ⟨#[62]⟩)
      (.mk 5 [] [r.1, u.1], takeP s u.2.1 u.2.2 ⟨#[41]⟩, !nextB s u.2.1 u.2.2 ⟨#[41]⟩)
    else if nextB s p b ⟨#[123]⟩ = true then
      let f := pFieldsC s (pTyC s n) (s.size + 1) [] [] (p + 1) b true
      (.mk 3 f.1 f.2.1, takeP s f.2.2.1 f.2.2.2 ⟨#[125]⟩, !nextB s f.2.2.1 f.2.2.2 ⟨#[125]⟩)
    else (tZero, p, true)
theorem pFieldsC_eq {s : ByteArray} {rec : Nat → Bool → PR} : ∀ (m : Nat) (L : List ByteArray) (A : List Ty) (p : Nat) (b more : Bool), pFields s rec m L A p b more = pFieldsC s rec m L A p b more
  | 0, L, A, p, b, more => rfl
  | m + 1, L, A, p, b, more => by
    rw [pFields, pFieldsC]
    simp only [nameB_eq]
    by_cases hc : more = true ∧ b = false
    · rw [if_pos hc, if_pos (by simp [hc])]
      exact pFieldsC_eq m _ _ _ _ _
    · rw [if_neg hc, if_neg (by simpa using hc)]
theorem pTyC_eq (s : ByteArray) : ∀ n, pTy s n = pTyC s n
  | 0 => by funext p b; rfl
  | n + 1 => by
    funext p b
    rw [pTy, pTyC]
    simp only [pTyC_eq s n, pFieldsC_eq]
def exT1 : Ty := .mk 3 [⟨#[107]⟩, ⟨#[110]⟩] [.mk 1 [] [], .mk 1 [] []]
def exT2 : Ty := .mk 3 [⟨#[98]⟩, ⟨#[107]⟩, ⟨#[115]⟩] [.mk 2 [] [], .mk 1 [] [], .mk 1 [] []]
def exS1 : ByteArray := ⟨#[123, 107, 58, 73, 44, 110, 58, 73, 125]⟩
def exS2 : ByteArray := ⟨#[123, 98, 58, 66, 44, 107, 58, 73, 44, 115, 58, 73, 125]⟩
def exSch : List Decl := [⟨⟨#[100]⟩, exT1⟩, ⟨⟨#[101]⟩, exT2⟩]
theorem exP1 : pTy exS1 7 0 false = (exT1, 9, false) := by rw [pTyC_eq]; rfl
theorem exP2 : pTy exS2 7 0 false = (exT2, 13, false) := by rw [pTyC_eq]; rfl
theorem exN (c : UInt8) (h : nameB ⟨#[c]⟩ = true) : NameOk ⟨#[c]⟩ := by rw [← nameB_eq] at h; exact of_decide_eq_true h
theorem exL1 : LabsOk [⟨#[107]⟩, ⟨#[110]⟩] := by
  refine ⟨fun s hs => ?_, by decide, fun k hk => ?_⟩
  · simp only [List.mem_cons, List.not_mem_nil, or_false] at hs
    rcases hs with rfl | rfl
    · exact exN 107 (by decide +kernel)
    · exact exN 110 (by decide +kernel)
  · match k, hk with
    | 0, _ => show sLt ⟨#[107]⟩ ⟨#[110]⟩ = true; decide +kernel
    | k + 1, hk => exfalso; simp only [List.length_cons, List.length_nil] at hk; omega
theorem exL2 : LabsOk [⟨#[98]⟩, ⟨#[107]⟩, ⟨#[115]⟩] := by
  refine ⟨fun s hs => ?_, by decide, fun k hk => ?_⟩
  · simp only [List.mem_cons, List.not_mem_nil, or_false] at hs
    rcases hs with rfl | rfl | rfl
    · exact exN 98 (by decide +kernel)
    · exact exN 107 (by decide +kernel)
    · exact exN 115 (by decide +kernel)
  · match k, hk with
    | 0, _ => show sLt ⟨#[98]⟩ ⟨#[107]⟩ = true; decide +kernel
    | 1, _ => show sLt ⟨#[107]⟩ ⟨#[115]⟩ = true; decide +kernel
    | k + 2, hk => exfalso; simp only [List.length_cons, List.length_nil] at hk; omega
theorem exF1 : TF (.mk 1 [] []) := (TF_eta _).2 ⟨.inr (.inr (.inl ⟨.inl rfl, rfl, rfl⟩)), fun a ha => by cases ha⟩
theorem exF2 : TF (.mk 2 [] []) := (TF_eta _).2 ⟨.inr (.inr (.inl ⟨.inr rfl, rfl, rfl⟩)), fun a ha => by cases ha⟩
theorem exO1 : TyOk exT1 := by
  refine ⟨by decide, by decide, (TF_eta _).2 ⟨.inl ⟨rfl, rfl, exL1, by simp [exT1, tHas, tHasL]⟩, fun a ha => ?_⟩⟩
  simp only [exT1, Ty.args, List.mem_cons, List.not_mem_nil, or_false, or_self] at ha
  subst ha; exact exF1
theorem exO2 : TyOk exT2 := by
  refine ⟨by decide, by decide, (TF_eta _).2 ⟨.inl ⟨rfl, rfl, exL2, by simp [exT2, tHas, tHasL]⟩, fun a ha => ?_⟩⟩
  simp only [exT2, Ty.args, List.mem_cons, List.not_mem_nil, or_false, or_self] at ha
  rcases ha with rfl | rfl
  · exact exF2
  · exact exF1
theorem exB1 : fmtTy exT1 = exS1 := by unfold fmtTy; rw [if_pos exO1]; unfold exT1; simp only [tyB, tyBL]; rfl
theorem exB2 : fmtTy exT2 = exS2 := by unfold fmtTy; rw [if_pos exO2]; unfold exT2; simp only [tyB, tyBL]; rfl
theorem exW (k : Int) (h : k = 1 ∨ k = 2) : okTy (2^20) (.mk k [] []) := okTy_iff.2 ⟨by show ok64 k; unfold ok64; omega, ⟨Nat.zero_le _, fun _ h => by cases h⟩, ⟨Nat.zero_le _, fun _ h => by cases h⟩⟩
theorem exLs (c : UInt8) : okS (2^20) ⟨#[c]⟩ := by show 1 ≤ 2^20; omega
theorem exK1 : okTy (2^20) exT1 ∧ zTy exT1 ≤ 2^40 := by
  constructor
  · refine okTy_iff.2 ⟨by show ok64 3; unfold ok64; omega, ⟨by show 2 ≤ 2^20; omega, fun s hs => ?_⟩, ⟨by show 2 ≤ 2^20; omega, fun s hs => ?_⟩⟩
    · simp only [exT1, Ty.labels, List.mem_cons, List.not_mem_nil, or_false] at hs
      rcases hs with rfl | rfl <;> exact exLs _
    · simp only [exT1, Ty.args, List.mem_cons, List.not_mem_nil, or_false, or_self] at hs
      subst hs; exact exW 1 (.inl rfl)
  · simp [zTy_eta, exT1, Ty.labels, Ty.args, zL, zS]; decide
theorem exK2 : okTy (2^20) exT2 ∧ zTy exT2 ≤ 2^40 := by
  constructor
  · refine okTy_iff.2 ⟨by show ok64 3; unfold ok64; omega, ⟨by show 3 ≤ 2^20; omega, fun s hs => ?_⟩, ⟨by show 3 ≤ 2^20; omega, fun s hs => ?_⟩⟩
    · simp only [exT2, Ty.labels, List.mem_cons, List.not_mem_nil, or_false] at hs
      rcases hs with rfl | rfl | rfl <;> exact exLs _
    · simp only [exT2, Ty.args, List.mem_cons, List.not_mem_nil, or_false, or_self] at hs
      rcases hs with rfl | rfl
      · exact exW 2 (.inr rfl)
      · exact exW 1 (.inl rfl)
  · simp [zTy_eta, exT2, Ty.labels, Ty.args, zL, zS]; decide
theorem exKS : okSch (2^20) exSch := by
  rw [okSch_iff]
  refine ⟨by decide, fun d hd => ?_⟩
  simp only [exSch, List.mem_cons, List.not_mem_nil, or_false] at hd
  rcases hd with rfl | rfl
  · exact okDecl_iff.2 ⟨by unfold okS; decide, exK1.1⟩
  · exact okDecl_iff.2 ⟨by unfold okS; decide, exK2.1⟩
end Go.VC
namespace Go.VC.T
open Go Go.VC Go.Proofs Go.VC.F
set_option linter.unusedSimpArgs false
set_option linter.unusedVariables false
set_option linter.defProp false
set_option maxRecDepth 100000
set_option maxHeartbeats 2000000
def fc119A75 := (And.intro (And.intro (And.intro (And.intro sz3 (And.intro ag3 zv3)) (And.intro (And.intro un3 sz4) (And.intro ag4 zv4))) (And.intro (And.intro (And.intro un4 sz9) (And.intro ag9 zv9)) (And.intro (And.intro un9 sz77) (And.intro ag77 zv77)))) (And.intro (And.intro (And.intro (And.intro fl77_0 fl77_1) (And.intro fl77_2 pl77)) (And.intro (And.intro sz216 ag216) (And.intro zv216 fl216_0))) (And.intro (And.intro (And.intro fl216_1 fl216_2) (And.intro pl216 okf167)) (And.intro (And.intro okf168 okf169) (And.intro sz63 sz75)))))
theorem parseType_of (s : ByteArray) (hs : s.size ≤ 2^20) (t : Ty) (h : okTy (2^20) t) (hz : zTy t ≤ 2^40) (hp : pTy s 7 0 false = (t, s.size, false)) (hb : fmtTy t = s) : FnS Try.prog 119 [] [sT s] (tyS t 2000 2002) (.tp [.ag [.im (.sc (.int .i64 t.kind)), .os 2000 t.labels.length, .os 2002 t.args.length], bT true]) := by
  refine FnS.go [0, 2, 3, 4, 5, 16] [] Try.func119 rfl (fun kt kz => ?_)
  have fcx := fc119A75
  simp only [Try.f119]
  have H := typ_ok s hs 7 1 0 false (by omega) (by omega) (Nat.zero_le _) 2000 2002 (by decide)
  rw [hp] at H
  have HW := rdWhole_ok s (by omega) s.size false
  obtain ⟨f, hf⟩ := pml [1, 2000, 2002] [8, 2000, 2002] (by decide) (by decide) rfl
  simp only [List.map_cons, List.map_nil, List.cons.injEq, and_true] at hf
  have H8 : FnS Try.prog 167 [(8, .box 216 (rdO s 0 false))] [.c (.rf 8 0), iT 1] ((8, .box 216 (rdO s s.size false)) :: tyS t 2000 2002) (tyR t 2000 2002) := by
    refine (H.renA f).asA ?_ ?_ ?_ ?_ <;> simp [renS, Ob.ren, TV.ren, renL, Cell.ren, hf, rdO]
  have HW8 : FnS Try.prog 168 [(8, .box 216 (rdO s s.size false))] [.c (.rf 8 0)] [(8, .box 216 (rdO s s.size false))] (bT true) := by
    refine (HW.renA f).asA ?_ ?_ ?_ ?_ <;> simp [renS, Ob.ren, TV.ren, renL, Cell.ren, hf, rdO]
  refine Run (cast_succ) ?_; repeat' (first | (with_reducible exact True.intro) | (with_reducible refine Lf.mk ?_ ?_) | (with_reducible intro hb))
  refine CalO (cast_succ) (H8) ?_
  refine Run (cast_succ) ?_; repeat' (first | (with_reducible exact True.intro) | (with_reducible refine Lf.mk ?_ ?_) | (with_reducible intro hb))
  refine CalO (cast_succ) (HW8) ?_
  refine Run (cast_succ) ?_; repeat' (first | (with_reducible exact True.intro) | (with_reducible refine Lf.mk ?_ ?_) | (with_reducible intro hb))
  refine Cal ((eTy_eta t)) (implFmtTy_ok t h hz) ?_
  refine Run (@hb) ?_; repeat' (first | (with_reducible exact True.intro) | (with_reducible refine Lf.mk ?_ ?_) | (with_reducible intro hb))
def fc68A75 := (And.intro (And.intro (And.intro (And.intro sz4 ag4) (And.intro zv4 un4)) (And.intro (And.intro sz9 ag9) (And.intro zv9 (And.intro un9 sz77)))) (And.intro (And.intro (And.intro ag77 zv77) (And.intro fl77_0 (And.intro fl77_1 fl77_2))) (And.intro (And.intro pl77 okf119) (And.intro sz3 (And.intro sz63 sz75)))))
theorem parsedType_of (s : ByteArray) (hs : s.size ≤ 2^20) (t : Ty) (h : okTy (2^20) t) (hz : zTy t ≤ 2^40) (hp : pTy s 7 0 false = (t, s.size, false)) (hb : fmtTy t = s) : FnS Try.prog 68 [] [sT s] (tyS t 2000 2002) (.ag [.im (.sc (.int .i64 t.kind)), .os 2000 t.labels.length, .os 2002 t.args.length]) := by
  refine FnS.go [0, 2, 3] [] Try.func68 rfl (fun kt kz => ?_)
  have fcx := fc68A75
  simp only [Try.f68]
  refine Run (cast_succ) ?_; repeat' (first | (with_reducible exact True.intro) | (with_reducible refine Lf.mk ?_ ?_) | (with_reducible intro hb))
  refine Cal (cast_succ) (parseType_of s hs t h hz hp hb) ?_
  refine Run (cast_succ) ?_; repeat' (first | (with_reducible exact True.intro) | (with_reducible refine Lf.mk ?_ ?_) | (with_reducible intro hb))
  refine ⟨rfl, rfl, ?_⟩
  refine Run (cast_succ) ?_; repeat' (first | (with_reducible exact True.intro) | (with_reducible refine Lf.mk ?_ ?_) | (with_reducible intro hb))
def fc65A75 := (And.intro (And.intro (And.intro sz77 ag77) (And.intro zv77 (And.intro fl77_0 fl77_1))) (And.intro (And.intro fl77_2 pl77) (And.intro sz3 (And.intro sz63 sz75))))
theorem l3Int_of (u : Unit) : FnS Try.prog 65 [] [] [] (.ag [.im (.sc (.int .i64 1)), .nl, .nl]) := by
  refine FnS.go [0] [] Try.func65 rfl (fun kt kz => ?_)
  have fcx := fc65A75
  simp only [Try.f65]
  refine Run (cast_succ) ?_; repeat' (first | (with_reducible exact True.intro) | (with_reducible refine Lf.mk ?_ ?_) | (with_reducible intro hb))
def fc67A75 := (And.intro (And.intro (And.intro sz77 ag77) (And.intro zv77 (And.intro fl77_0 fl77_1))) (And.intro (And.intro fl77_2 pl77) (And.intro sz3 (And.intro sz63 sz75))))
theorem l3Bool_of (u : Unit) : FnS Try.prog 67 [] [] [] (.ag [.im (.sc (.int .i64 2)), .nl, .nl]) := by
  refine FnS.go [0] [] Try.func67 rfl (fun kt kz => ?_)
  have fcx := fc67A75
  simp only [Try.f67]
  refine Run (cast_succ) ?_; repeat' (first | (with_reducible exact True.intro) | (with_reducible refine Lf.mk ?_ ?_) | (with_reducible intro hb))

theorem l3Int_ok : FnP Try.prog 65 [] (agT (eTy (.mk 1 [] []))) := (l3Int_of ()).tree rfl
theorem l3Bool_ok : FnP Try.prog 67 [] (agT (eTy (.mk 2 [] []))) := (l3Bool_of ()).tree rfl
def fc66A75 := (And.intro (And.intro (And.intro (And.intro sz3 (And.intro ag3 zv3)) (And.intro (And.intro un3 sz4) (And.intro ag4 zv4))) (And.intro (And.intro (And.intro un4 sz63) (And.intro ag63 zv63)) (And.intro (And.intro sb63 un63) (And.intro el63 ap63)))) (And.intro (And.intro (And.intro sz75 (And.intro ag75 zv75)) (And.intro (And.intro sb75 un75) (And.intro el75 ap75))) (And.intro (And.intro (And.intro sz77 ag77) (And.intro zv77 fl77_0)) (And.intro (And.intro fl77_1 fl77_2) (And.intro pl77 okf101)))))
theorem l3Rec_ok (l : List ByteArray) (hl : l.length ≤ 2^20) (a : List Ty) (ha : okLs (2^20) okTy a) : FnS Try.prog 66 [] [slT eS l, slT eTy a] [] (agT (eTy (.mk 3 l a))) := by
  refine FnS.go [0, 1, 4, 5, 6, 14] [1000, 14] Try.func66 rfl (fun kt kz => ?_)
  have fcx := fc66A75
  simp only [Try.f66]
  have hal := ha.1
  have e0 : eTy (.mk 3 l a) = [.sc (.int .i64 3), .sl l.length (l.flatMap eS), .sl a.length (a.flatMap eTy)] := eTy_eta _
  have dx : Dx 4 3 5 := ⟨⟩
  refine RunX (cast_succ) ?_; repeat' (first | (with_reducible exact True.intro) | (with_reducible refine Lf.mk ?_ ?_) | (with_reducible intro hb))
  refine Sm.nlB (10) 2 (1000) (77) 3 false (by rfl) (by rfl) (by rfl) (by decide) (by rfl) (by rfl) (by decide) (by rfl) ?_; simp only [upd, List.set_cons_zero, List.set_cons_succ, ↓reduceIte, Nat.reduceEqDiff]
  refine Trn (α := Nat) [6, 11, 12, 13, 14, 15, 16, 17, 18, 19, 20, 21, 22, 23, 24, 25, 26] (fun i => [(6, iT i)]) (fun i => [(8, .box 77 [.im (.sc (.int .i64 0)), .nl, .nl]), (10, .box 77 [.im (.sc (.int .i64 3)), .os 14 l.length, .os 1000 i]), (14, .vec 9 1 l.length (l.flatMap eS) true), (1000, .vec 77 3 i ((a.take i).flatMap eTy) false)]) (fun i => i ≤ a.length) (fun i => a.length - i) (0) (Nat.zero_le _) (cast_succ) ?_; intro lx hI; obtain i := lx; (try simp only [List.nil_append, List.cons_append] at hI ⊢)
  by_cases hlt : lx < a.length
  · have e1 : (a.take lx).flatMap eTy ++ eTy a[lx] = (a.take (lx + 1)).flatMap eTy := by rw [take_at hlt, List.flatMap_append, flat_one]
    rw [eTy_eta a[lx]] at e1
    simp only [slI] at e1
    refine Run ((And.intro (eTy_eta a[lx]) @hlt)) ?_; repeat' (first | (with_reducible exact True.intro) | (with_reducible refine Lf.mk ?_ ?_) | (with_reducible intro hb))
    refine CalI ((eTy_eta a[lx])) (l3Copy_ok a[lx] (ha.2 _ (List.getElem_mem hlt))) ?_
    refine Run ((And.intro (eTy_eta a[lx]) @hlt)) ?_; repeat' (first | (with_reducible exact True.intro) | (with_reducible refine Lf.mk ?_ ?_) | (with_reducible intro hb))
    exact Nxt ((And.intro (eTy_eta a[lx]) @e1)) (lx + 1) (hlt) (by first | omega | (simp; omega))
  · obtain rfl : lx = a.length := by omega
    have e1 : (a.take a.length).flatMap eTy = a.flatMap eTy := by rw [List.take_length]
    refine Run ((And.intro @hlt (And.intro @e1 @e0))) ?_; repeat' (first | (with_reducible exact True.intro) | (with_reducible refine Lf.mk ?_ ?_) | (with_reducible intro hb))

end Go.VC.T
/- The schema of the examples: both sides, the law. -/
namespace Go.VC
theorem exA1 : okLs (2^20) okTy [Ty.mk 1 [] [], .mk 1 [] []] := (okTy_iff.1 exK1.1).2.2
theorem exA2 : okLs (2^20) okTy [Ty.mk 2 [] [], .mk 1 [] [], .mk 1 [] []] := (okTy_iff.1 exK2.1).2.2
end Go.VC
namespace Go.VC.T
open Go Go.VC Go.Proofs Go.VC.F
set_option linter.unusedSimpArgs false
set_option linter.unusedVariables false
set_option linter.defProp false
set_option maxRecDepth 100000
set_option maxHeartbeats 2000000
def fc24A76 := (And.intro (And.intro (And.intro (And.intro (And.intro sz9 ag9) (And.intro zv9 un9)) (And.intro (And.intro sz43 ag43) (And.intro zv43 sb43))) (And.intro (And.intro (And.intro un43 el43) (And.intro ap43 sz45)) (And.intro (And.intro ag45 zv45) (And.intro fl45_0 pl45)))) (And.intro (And.intro (And.intro (And.intro sz77 ag77) (And.intro zv77 fl77_0)) (And.intro (And.intro fl77_1 fl77_2) (And.intro pl77 sz117))) (And.intro (And.intro (And.intro ag117 zv117) (And.intro fl117_0 fl117_1)) (And.intro (And.intro pl117 okf68) (And.intro sz3 (And.intro sz63 sz75))))))
theorem implEx_of (u : Unit) : FnS Try.prog 24 [] [] [(10, .vec 117 4 2 (exSch.flatMap eDecl) true)] (.ag [.os 10 2]) := by
  refine FnS.go [0] [] Try.func24 rfl (fun kt kz => ?_)
  have fcx := fc24A76
  simp only [Try.f24]
  have H1 := parsedType_of exS1 (by decide) exT1 exK1.1 exK1.2 exP1 exB1
  have H2 := parsedType_of exS2 (by decide) exT2 exK2.1 exK2.2 exP2 exB2
  obtain ⟨f, hf⟩ := pml [2000, 2002] [2004, 2006] (by decide) (by decide) rfl
  simp only [List.map_cons, List.map_nil, List.cons.injEq, and_true] at hf
  have H3 : FnS Try.prog 68 [] [sT exS2] (tyS exT2 2004 2006) (tyR exT2 2004 2006) := by
    refine (H2.pm f).as ?_ ?_ <;> simp [renS, Ob.ren, TV.ren, renL, Cell.ren, hf]
  have e : [.sc (.string ⟨#[100]⟩), .sc (.int .i64 exT1.kind), .sl exT1.labels.length (exT1.labels.flatMap eS), .sl exT1.args.length (exT1.args.flatMap eTy), .sc (.string ⟨#[101]⟩), .sc (.int .i64 exT2.kind), .sl exT2.labels.length (exT2.labels.flatMap eS), .sl exT2.args.length (exT2.args.flatMap eTy)] = exSch.flatMap eDecl := by
    unfold exSch
    simp only [List.flatMap_cons, List.flatMap_nil, eDecl_eta]
    rfl
  have c1 : exS1 = ⟨#[123, 107, 58, 73, 44, 110, 58, 73, 125]⟩ := rfl
  have c2 : exS2 = ⟨#[123, 98, 58, 66, 44, 107, 58, 73, 44, 115, 58, 73, 125]⟩ := rfl
  refine Run (cast_succ) ?_; repeat' (first | (with_reducible exact True.intro) | (with_reducible refine Lf.mk ?_ ?_) | (with_reducible intro hb))
  refine Cal (@c1) (H1) ?_
  refine Run (cast_succ) ?_; repeat' (first | (with_reducible exact True.intro) | (with_reducible refine Lf.mk ?_ ?_) | (with_reducible intro hb))
  refine Cal (@c2) (H3) ?_
  refine Run (@e) ?_; repeat' (first | (with_reducible exact True.intro) | (with_reducible refine Lf.mk ?_ ?_) | (with_reducible intro hb))
def fc23A76 := (And.intro (And.intro (And.intro (And.intro (And.intro sz43 ag43) (And.intro zv43 (And.intro sb43 un43))) (And.intro (And.intro el43 (And.intro ap43 sz45)) (And.intro ag45 (And.intro zv45 fl45_0)))) (And.intro (And.intro (And.intro pl45 sz63) (And.intro ag63 (And.intro zv63 sb63))) (And.intro (And.intro un63 (And.intro el63 ap63)) (And.intro sz75 (And.intro ag75 zv75))))) (And.intro (And.intro (And.intro (And.intro sb75 un75) (And.intro el75 (And.intro ap75 sz77))) (And.intro (And.intro ag77 (And.intro zv77 fl77_0)) (And.intro fl77_1 (And.intro fl77_2 pl77)))) (And.intro (And.intro (And.intro sz117 ag117) (And.intro zv117 (And.intro fl117_0 fl117_1))) (And.intro (And.intro pl117 (And.intro okf65 okf66)) (And.intro okf67 (And.intro sz3 sz9))))))
theorem specEx_of (u : Unit) : FnS Try.prog 23 [] [] [] (.ag [.ik 2 2 (exSch.flatMap eDecl)]) := by
  refine FnS.go [0, 1] [] Try.func23 rfl (fun kt kz => ?_)
  have fcx := fc23A76
  simp only [Try.f23]
  have I1 : FnP Try.prog 65 [] (.ag [.im (.sc (.int .i64 1)), .im (.sl 0 []), .im (.sl 0 [])]) := l3Int_ok
  have B1 : FnP Try.prog 67 [] (.ag [.im (.sc (.int .i64 2)), .im (.sl 0 []), .im (.sl 0 [])]) := l3Bool_ok
  have R1 : FnP Try.prog 66 [.c (.im (.sl 2 [.sc (.string ⟨#[107]⟩), .sc (.string ⟨#[110]⟩)])), .c (.im (.sl 2 [.sc (.int .i64 1), .sl 0 [], .sl 0 [], .sc (.int .i64 1), .sl 0 [], .sl 0 []]))] (.ag [.im (.sc (.int .i64 3)), .im (.sl 2 [.sc (.string ⟨#[107]⟩), .sc (.string ⟨#[110]⟩)]), .im (.sl 2 [.sc (.int .i64 1), .sl 0 [], .sl 0 [], .sc (.int .i64 1), .sl 0 [], .sl 0 []])]) := l3Rec_ok [⟨#[107]⟩, ⟨#[110]⟩] (by decide) _ exA1
  have R2 : FnP Try.prog 66 [.c (.im (.sl 3 [.sc (.string ⟨#[98]⟩), .sc (.string ⟨#[107]⟩), .sc (.string ⟨#[115]⟩)])), .c (.im (.sl 3 [.sc (.int .i64 2), .sl 0 [], .sl 0 [], .sc (.int .i64 1), .sl 0 [], .sl 0 [], .sc (.int .i64 1), .sl 0 [], .sl 0 []]))] (.ag [.im (.sc (.int .i64 3)), .im (.sl 3 [.sc (.string ⟨#[98]⟩), .sc (.string ⟨#[107]⟩), .sc (.string ⟨#[115]⟩)]), .im (.sl 3 [.sc (.int .i64 2), .sl 0 [], .sl 0 [], .sc (.int .i64 1), .sl 0 [], .sl 0 [], .sc (.int .i64 1), .sl 0 [], .sl 0 []])]) := l3Rec_ok [⟨#[98]⟩, ⟨#[107]⟩, ⟨#[115]⟩] (by decide) _ exA2
  refine Run (cast_succ) ?_; repeat' (first | (with_reducible exact True.intro) | (with_reducible refine Lf.mk ?_ ?_) | (with_reducible intro hb))
  refine CalI (cast_succ) (I1) ?_
  refine Run (cast_succ) ?_; repeat' (first | (with_reducible exact True.intro) | (with_reducible refine Lf.mk ?_ ?_) | (with_reducible intro hb))
  refine CalI (cast_succ) (R1) ?_
  refine Run (cast_succ) ?_; repeat' (first | (with_reducible exact True.intro) | (with_reducible refine Lf.mk ?_ ?_) | (with_reducible intro hb))
  refine CalI (cast_succ) (B1) ?_
  refine Run (cast_succ) ?_; repeat' (first | (with_reducible exact True.intro) | (with_reducible refine Lf.mk ?_ ?_) | (with_reducible intro hb))
  refine CalI (cast_succ) (R2) ?_
  refine Run (cast_succ) ?_; repeat' (first | (with_reducible exact True.intro) | (with_reducible refine Lf.mk ?_ ?_) | (with_reducible intro hb))
  rfl

theorem specEx_ok : FnP Try.prog 23 [] (agT (eSch exSch)) := (specEx_of ()).tree rfl
theorem implEx_q (q : Nat) : FnS Try.prog 24 [] [] [(q, .row exSch.length (exSch.flatMap eDecl))] (.ag [.os q exSch.length]) := by
  obtain ⟨p, hp⟩ := pm1 10 q
  have e : exSch.length = 2 := rfl
  refine ((implEx_of ()).rows.pm p).as ?_ ?_ <;> simp [rowS, rowO, renS, Ob.ren, TV.ren, renL, Cell.ren, hp, e]
theorem _root_.Go.VC.exCn : cnL (exSch.flatMap eDecl) ≤ 100 := by
  unfold exSch exT1 exT2
  simp [eDecl, eTy, eTyL, slI, eS, cnL_i, cnL_l, cnL_s, cnL_n]
def fc5A76 := (And.intro (And.intro (And.intro (And.intro sz3 ag3) (And.intro zv3 un3)) (And.intro (And.intro sz4 ag4) (And.intro zv4 (And.intro un4 sz45)))) (And.intro (And.intro (And.intro ag45 zv45) (And.intro fl45_0 (And.intro pl45 okf23))) (And.intro (And.intro okf24 okf25) (And.intro okf26 (And.intro okf27 sz43)))))
theorem exSchema_law (u : Unit) : FnS Try.prog 5 [] [] [] (bT true) := by
  refine FnS.go [0, 1, 2, 3, 4, 5, 11, 19, 22, 27, 32, 35] [] Try.func5 rfl (fun kt kz => ?_)
  have fcx := fc5A76
  simp only [Try.f5]
  have hcn := exCn
  have hk := exKS
  have hn : ((1 + (cnL (exSch.flatMap eDecl) : Int)) < 0) = False := eq_false (by omega)
  refine Run (cast_succ) ?_; repeat' (first | (with_reducible exact True.intro) | (with_reducible refine Lf.mk ?_ ?_) | (with_reducible intro hb))
  refine CalI (@eSch_eta) (specEx_ok) ?_
  refine Run (@eSch_eta) ?_; repeat' (first | (with_reducible exact True.intro) | (with_reducible refine Lf.mk ?_ ?_) | (with_reducible intro hb))
  refine Cal (@eSch_eta) (implEx_q 2000) ?_
  refine Run (@eSch_eta) ?_; repeat' (first | (with_reducible exact True.intro) | (with_reducible refine Lf.mk ?_ ?_) | (with_reducible intro hb))
  refine Cal (@eSch_eta) (eqSchema_ok exSch hk) ?_
  refine Run (@eSch_eta) ?_; repeat' (first | (with_reducible exact True.intro) | (with_reducible refine Lf.mk ?_ ?_) | (with_reducible intro hb))
  refine CalO (cast_succ) (markSchema_q exSch 1 ⟨by omega, by omega⟩ 2000 (by simp)) ?_
  refine Run (@eSch_eta) ?_; repeat' (first | (with_reducible exact True.intro) | (with_reducible refine Lf.mk ?_ ?_) | (with_reducible intro hb))
  refine Cal (@hSchema.eq_1) (heldSchema_ok exSch 1 ⟨by omega, by omega⟩) ?_
  refine Run ((And.intro @eSch_eta @hn)) ?_; repeat' (first | (with_reducible exact True.intro) | (with_reducible refine Lf.mk ?_ ?_) | (with_reducible intro hb))
  refine Cal (@eSch_eta) (implEx_q 2002) ?_
  refine Run (@eSch_eta) ?_; repeat' (first | (with_reducible exact True.intro) | (with_reducible refine Lf.mk ?_ ?_) | (with_reducible intro hb))
  refine Cal (@eSch_eta) (eqSchema_ok exSch hk) ?_
  refine Run (@eSch_eta) ?_; repeat' (first | (with_reducible exact True.intro) | (with_reducible refine Lf.mk ?_ ?_) | (with_reducible intro hb))
  refine Cal (@hSchema.eq_1) (heldSchema_ok exSch 1 ⟨by omega, by omega⟩) ?_
  refine Run ((And.intro @eSch_eta @hn)) ?_; repeat' (first | (with_reducible exact True.intro) | (with_reducible refine Lf.mk ?_ ?_) | (with_reducible intro hb))

end Go.VC.T
