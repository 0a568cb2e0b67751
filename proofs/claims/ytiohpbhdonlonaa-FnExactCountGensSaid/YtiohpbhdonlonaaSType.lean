/- Data (Type): how they are measured, copied and compared. -/
import Derived.Test.YtiohpbhdonlonaaA2
namespace Go.VC.T
open Go Go.VC Go.Proofs Go.VC.F
set_option linter.unusedSimpArgs false
set_option linter.unusedVariables false
set_option linter.defProp false
set_option maxRecDepth 100000
set_option maxHeartbeats 2000000
def fc209 := (And.intro (And.intro (And.intro (And.intro sz3 (And.intro ag3 zv3)) (And.intro (And.intro un3 sz4) (And.intro ag4 zv4))) (And.intro (And.intro (And.intro un4 sz38) (And.intro ag38 zv38)) (And.intro (And.intro sb38 un38) (And.intro el38 ap38)))) (And.intro (And.intro (And.intro (And.intro sz62 ag62) (And.intro zv62 sb62)) (And.intro (And.intro un62 el62) (And.intro ap62 sz64))) (And.intro (And.intro (And.intro ag64 zv64) (And.intro fl64_0 fl64_1)) (And.intro (And.intro fl64_2 pl64) (And.intro okf33 okf269)))))
theorem szType_of (t : Ty) (h : okTy (2^48) t) (H0 : ∀ left : Int, 0 ≤ left ∧ left ≤ 2^20 → FnP Try.prog 269 [slT eTy t.args, iT left] (iT (szR (zL zTy t.args) left))) (left : Int) (hl : 0 ≤ left ∧ left ≤ 2^20) : FnS Try.prog 209 [] [agT (eTy t), iT left] [] (iT (szR (zTy t) left)) := by
  refine FnS.go [0, 1, 2, 4, 10, 16] [] Try.func209 rfl (fun kt kz => ?_)
  have fcx := fc209
  simp only [Try.f209]
  have ho := okTy_iff.1 h
  refine Run ((And.intro @eTy_eta @szR_add)) ?_; repeat' (first | (with_reducible exact True.intro) | (with_reducible refine Lf.mk ?_ ?_) | (with_reducible intro hb))
  refine Cal ((And.intro @eTy_eta @szR_add)) (szStringS_ok _ ho.2.1 _ hl) ?_
  have hz := szR_le (n := zSL t.labels) hl.1
  refine Run ((And.intro @eTy_eta @szR_add)) ?_; repeat' (first | (with_reducible exact True.intro) | (with_reducible refine Lf.mk ?_ ?_) | (with_reducible intro hb))
  · congr 4; have s1 := szR_spec (zSL t.labels) left; have s2 := szR_spec (zTy t) left; rw [zTy_eta] at s2 ⊢; omega
  · skip
    refine Cal ((And.intro @eTy_eta @szR_add)) (H0 _ ⟨(by assumption), by have := szR_le (n := zSL t.labels) hl.1; omega⟩) ?_
    have hz := szR_le (n := zSL t.labels + zL zTy t.args) hl.1
    refine Run ((And.intro @eTy_eta @szR_add)) ?_; repeat' (first | (with_reducible exact True.intro) | (with_reducible refine Lf.mk ?_ ?_) | (with_reducible intro hb))
    · congr 4; have s1 := szR_spec (zSL t.labels + zL zTy t.args) left; have s2 := szR_spec (zTy t) left; rw [zTy_eta] at s2 ⊢; omega
    · skip
      rw [zTy_eta]
def fc269 := (And.intro (And.intro (And.intro (And.intro sz3 (And.intro ag3 zv3)) (And.intro un3 (And.intro sz4 ag4))) (And.intro (And.intro zv4 (And.intro un4 sz62)) (And.intro ag62 (And.intro zv62 sb62)))) (And.intro (And.intro (And.intro un62 (And.intro el62 ap62)) (And.intro sz64 (And.intro ag64 zv64))) (And.intro (And.intro fl64_0 (And.intro fl64_1 fl64_2)) (And.intro pl64 (And.intro okf209 sz38)))))
theorem szTypeS_of (xs : List Ty) (hx : okLs (2^48) okTy xs) (H : ∀ t ∈ xs, ∀ left : Int, 0 ≤ left ∧ left ≤ 2^20 → FnP Try.prog 209 [agT (eTy t), iT left] (iT (szR (zTy t) left))) (left : Int) (hl : 0 ≤ left ∧ left ≤ 2^20) : FnS Try.prog 269 [] [slT eTy xs, iT left] [] (iT (szR (zL zTy xs) left)) := by
  refine FnS.go [0, 1, 4, 5, 11, 15, 25] [] Try.func269 rfl (fun kt kz => ?_)
  have fcx := fc269
  simp only [Try.f269]
  have hx1 := hx.1
  refine Run (cast_succ) ?_; repeat' (first | (with_reducible exact True.intro) | (with_reducible refine Lf.mk ?_ ?_) | (with_reducible intro hb))
  · simp only [szR_nil hb zL_len]
  · rw [szR_sub hb]
    have hb2 := szR_sub hb ▸ hb
    refine Trn (α := Nat) [1, 4, 5, 12, 13, 14, 15, 16, 17, 18, 19, 20, 21, 22, 23, 24, 25] (fun i => [(5, iT i), (1, iT (szR (zT zTy xs i) left))]) (fun i => []) (fun i => i ≤ xs.length ∧ 0 ≤ szR (zT zTy xs i) left) (fun i => xs.length - i) (0) (⟨Nat.zero_le _, by rw [zT_zero]; exact hb2⟩) ((zT_zero (z := zTy) (l := xs))) ?_; intro lx hI; obtain i := lx; (try simp only [List.nil_append, List.cons_append] at hI ⊢)
    have hz := szR_le (n := zT zTy xs lx) hl.1
    by_cases hlt : lx < xs.length
    · have e : szR (zTy xs[lx]) (szR (zT zTy xs lx) left) = szR (zT zTy xs (lx + 1)) left := by rw [zT_succ hlt, ← szR_add]
      refine Run (@eTy_eta) ?_; repeat' (first | (with_reducible exact True.intro) | (with_reducible refine Lf.mk ?_ ?_) | (with_reducible intro hb))
      · refine Cal (@eTy_eta) (H _ (List.getElem_mem hlt) _ ⟨hI.2, by omega⟩) ?_
        refine Run (cast_succ) ?_; repeat' (first | (with_reducible exact True.intro) | (with_reducible refine Lf.mk ?_ ?_) | (with_reducible intro hb))
        · rw [e] at hb
          rw [szR_neg hb zT_le]
        · rw [e] at hb
          exact Nxt (@e) (lx + 1) (⟨by omega, hb⟩) (by first | omega | (simp; omega))
      · omega
    · refine Run (cast_succ) ?_; repeat' (first | (with_reducible exact True.intro) | (with_reducible refine Lf.mk ?_ ?_) | (with_reducible intro hb))
      · omega
      · rw [zT_all (by omega)]

theorem szType_ok (t : Ty) (h : okTy (2^48) t) (left : Int) (hl : 0 ≤ left ∧ left ≤ 2^20) : FnP Try.prog 209 [agT (eTy t), iT left] (iT (szR (zTy t) left)) := szType_of t h (fun left hl => szTypeS_of t.args ((okTy_iff.1 h).2.2) (fun u hu left hl => szType_ok u (((okTy_iff.1 h).2.2).2 u hu) left hl) left hl) left hl
termination_by SizeOf.sizeOf t
decreasing_by all_goals first | exact Ty.mem hu | exact Val.mem hu | exact Tm.mem hu | exact Pl.mem hu | exact Hd.memP hu | exact Hd.memQ hu | exact Cmp.memH _
theorem szTypeS_ok (xs : List Ty) (h : okLs (2^48) okTy xs) (left : Int) (hl : 0 ≤ left ∧ left ≤ 2^20) : FnP Try.prog 269 [slT eTy xs, iT left] (iT (szR (zL zTy xs) left)) := szTypeS_of xs h (fun t ht left hl => szType_ok t (h.2 t ht) left hl) left hl
def fc211 := (And.intro (And.intro (And.intro (And.intro (And.intro sz3 ag3) (And.intro zv3 (And.intro un3 sz38))) (And.intro (And.intro ag38 zv38) (And.intro sb38 (And.intro un38 el38)))) (And.intro (And.intro (And.intro ap38 sz62) (And.intro ag62 (And.intro zv62 sb62))) (And.intro (And.intro un62 el62) (And.intro ap62 (And.intro sz64 ag64))))) (And.intro (And.intro (And.intro (And.intro zv64 fl64_0) (And.intro fl64_1 (And.intro fl64_2 pl64))) (And.intro (And.intro sz72 ag72) (And.intro zv72 (And.intro sb72 un72)))) (And.intro (And.intro (And.intro el72 ap72) (And.intro sz74 (And.intro ag74 zv74))) (And.intro (And.intro fl74_0 (And.intro fl74_1 fl74_2)) (And.intro pl74 (And.intro okf36 okf270))))))
theorem toType_w (t : Ty) (h : okTy (2^20) t) (H0 : ∀ q : Nat, FnS Try.prog 270 [] [slT eTy t.args] [(q, .row t.args.length (t.args.flatMap eTy))] (.c (.os q t.args.length))) : FnS Try.prog 211 [] [agT (eTy t)] [(1000, .row t.labels.length (t.labels.flatMap eS)), (1002, .row t.args.length (t.args.flatMap eTy))] (.ag [.im (.sc (.int .i64 t.kind)), .os 1000 t.labels.length, .os 1002 t.args.length]) := by
  refine FnS.go [0, 1, 2, 3] [] Try.func211 rfl (fun kt kz => ?_)
  have fcx := fc211
  simp only [Try.f211]
  have ho := okTy_iff.1 h
  refine Run (@eTy_eta) ?_; repeat' (first | (with_reducible exact True.intro) | (with_reducible refine Lf.mk ?_ ?_) | (with_reducible intro hb))
  refine CalI (@eTy_eta) (toStringS_o _ ho.2.1 1000) ?_
  refine Run (@eTy_eta) ?_; repeat' (first | (with_reducible exact True.intro) | (with_reducible refine Lf.mk ?_ ?_) | (with_reducible intro hb))
  refine CalI (@eTy_eta) (H0 1002) ?_
  refine Run (@eTy_eta) ?_; repeat' (first | (with_reducible exact True.intro) | (with_reducible refine Lf.mk ?_ ?_) | (with_reducible intro hb))

theorem toType_q (t : Ty) (h : okTy (2^20) t) (H0 : ∀ q : Nat, FnS Try.prog 270 [] [slT eTy t.args] [(q, .row t.args.length (t.args.flatMap eTy))] (.c (.os q t.args.length))) : ∀ q0 q1 : Nat, [q0, q1].Nodup → FnS Try.prog 211 [] [agT (eTy t)] [(q0, .row t.labels.length (t.labels.flatMap eS)), (q1, .row t.args.length (t.args.flatMap eTy))] (.ag [.im (.sc (.int .i64 t.kind)), .os q0 t.labels.length, .os q1 t.args.length]) := by
  intro q0 q1 hq
  obtain ⟨p, hp⟩ := pml [1000, 1002] [q0, q1] (by decide) hq rfl
  simp only [List.map_cons, List.map_nil, List.cons.injEq, and_true] at hp
  refine ((toType_w t h H0).rows.pm p).as ?_ ?_ <;> simp [rowS, rowO, renS, Ob.ren, TV.ren, renL, Cell.ren, hp]
def fc270 := (And.intro (And.intro (And.intro (And.intro (And.intro sz3 ag3) (And.intro zv3 un3)) (And.intro (And.intro sz4 ag4) (And.intro zv4 (And.intro un4 sz62)))) (And.intro (And.intro (And.intro ag62 zv62) (And.intro sb62 (And.intro un62 el62))) (And.intro (And.intro ap62 sz64) (And.intro ag64 (And.intro zv64 fl64_0))))) (And.intro (And.intro (And.intro (And.intro fl64_1 fl64_2) (And.intro pl64 sz72)) (And.intro (And.intro ag72 zv72) (And.intro sb72 (And.intro un72 el72)))) (And.intro (And.intro (And.intro ap72 sz74) (And.intro ag74 (And.intro zv74 fl74_0))) (And.intro (And.intro fl74_1 fl74_2) (And.intro pl74 (And.intro okf211 sz38))))))
theorem toTypeS_w (xs : List Ty) (hx : okLs (2^20) okTy xs) (H : ∀ t ∈ xs, ∀ q0 q1 : Nat, [q0, q1].Nodup → FnS Try.prog 211 [] [agT (eTy t)] [(q0, .row t.labels.length (t.labels.flatMap eS)), (q1, .row t.args.length (t.args.flatMap eTy))] (.ag [.im (.sc (.int .i64 t.kind)), .os q0 t.labels.length, .os q1 t.args.length])) : FnS Try.prog 270 [] [slT eTy xs] [(14, .vec 74 3 xs.length (xs.flatMap eTy) true)] (.c (.os 14 xs.length)) := by
  refine FnS.go [0, 2, 3, 4, 11] [] Try.func270 rfl (fun kt kz => ?_)
  have fcx := fc270
  simp only [Try.f270]
  have hx1 := hx.1
  refine Run (cast_succ) ?_; repeat' (first | (with_reducible exact True.intro) | (with_reducible refine Lf.mk ?_ ?_) | (with_reducible intro hb))
  refine Trn (α := Nat) [4, 8, 9, 10, 11, 12, 13, 14, 15, 16, 17, 18, 19, 20, 21] (fun i => [(4, iT i), (3, .c (.os 14 xs.length))]) (fun i => [(14, .vec 74 3 xs.length (filled eTy [.sc (.int .i64 0), .sl 0 [], .sl 0 []] xs i) true)]) (fun i => i ≤ xs.length) (fun i => xs.length - i) (0) (Nat.zero_le _) (cast_succ) ?_; intro lx hI; obtain i := lx; (try simp only [List.nil_append, List.cons_append] at hI ⊢)
  refine Run (@eTy_eta) ?_; repeat' (first | (with_reducible exact True.intro) | (with_reducible refine Lf.mk ?_ ?_) | (with_reducible intro hb))
  · refine CalI (@eTy_eta) (H _ (List.getElem_mem hb) 1000 1002 (by decide)) ?_
    refine Run (@eTy_eta) ?_; repeat' (first | (with_reducible exact True.intro) | (with_reducible refine Lf.mk ?_ ?_) | (with_reducible intro hb))
    have hs := filled_step' (E := eTy) (zs := [.sc (.int .i64 0), .sl 0 [], .sl 0 []]) hb
    simp only [eTy_eta, setL_st, stL_one, slI] at hs
    exact Nxt (@hs) (lx + 1) (by omega) (by first | omega | (simp; omega))

theorem toTypeS_q (xs : List Ty) (hx : okLs (2^20) okTy xs) (H : ∀ t ∈ xs, ∀ q0 q1 : Nat, [q0, q1].Nodup → FnS Try.prog 211 [] [agT (eTy t)] [(q0, .row t.labels.length (t.labels.flatMap eS)), (q1, .row t.args.length (t.args.flatMap eTy))] (.ag [.im (.sc (.int .i64 t.kind)), .os q0 t.labels.length, .os q1 t.args.length])) (q : Nat) : FnS Try.prog 270 [] [slT eTy xs] [(q, .row xs.length (xs.flatMap eTy))] (.c (.os q xs.length)) := by
  obtain ⟨p, hp⟩ := pm1 14 q
  refine ((toTypeS_w xs hx H).rows.pm p).as ?_ ?_ <;> simp [rowS, rowO, renS, Ob.ren, TV.ren, Cell.ren, hp]

theorem toType_o (t : Ty) (h : okTy (2^20) t) : ∀ q0 q1 : Nat, [q0, q1].Nodup → FnS Try.prog 211 [] [agT (eTy t)] [(q0, .row t.labels.length (t.labels.flatMap eS)), (q1, .row t.args.length (t.args.flatMap eTy))] (.ag [.im (.sc (.int .i64 t.kind)), .os q0 t.labels.length, .os q1 t.args.length]) := toType_q t h (fun q => toTypeS_q t.args ((okTy_iff.1 h).2.2) (fun u hu => toType_o u (((okTy_iff.1 h).2.2).2 u hu)) q)
termination_by SizeOf.sizeOf t
decreasing_by all_goals first | exact Ty.mem hu | exact Val.mem hu | exact Tm.mem hu | exact Pl.mem hu | exact Hd.memP hu | exact Hd.memQ hu | exact Cmp.memH _
theorem toTypeS_o (xs : List Ty) (h : okLs (2^20) okTy xs) (q : Nat) : FnS Try.prog 270 [] [slT eTy xs] [(q, .row xs.length (xs.flatMap eTy))] (.c (.os q xs.length)) := toTypeS_q xs h (fun t ht => toType_o t (h.2 t ht)) q
def fc214 := (And.intro (And.intro (And.intro (And.intro sz3 (And.intro ag3 zv3)) (And.intro (And.intro un3 sz4) (And.intro ag4 zv4))) (And.intro (And.intro (And.intro un4 sz38) (And.intro ag38 zv38)) (And.intro (And.intro sb38 un38) (And.intro el38 ap38)))) (And.intro (And.intro (And.intro (And.intro sz72 ag72) (And.intro zv72 sb72)) (And.intro (And.intro un72 el72) (And.intro ap72 sz74))) (And.intro (And.intro (And.intro ag74 zv74) (And.intro fl74_0 fl74_1)) (And.intro (And.intro fl74_2 pl74) (And.intro okf38 okf272)))))
theorem eqType_of (t : Ty) (h : okTy (2^20) t) (H0 : FnP Try.prog 272 [slT eTy t.args, slT eTy t.args] (bT true)) : FnS Try.prog 214 [] [agT (eTy t), agT (eTy t)] [] (bT true) := by
  refine FnS.go [0, 1, 2, 3, 4, 9, 15, 21] [] Try.func214 rfl (fun kt kz => ?_)
  have fcx := fc214
  simp only [Try.f214]
  have ho := okTy_iff.1 h
  refine Run (@eTy_eta) ?_; repeat' (first | (with_reducible exact True.intro) | (with_reducible refine Lf.mk ?_ ?_) | (with_reducible intro hb))
  refine Cal (@eTy_eta) (eqStringS_rf _ ho.2.1) ?_
  refine Run (@eTy_eta) ?_; repeat' (first | (with_reducible exact True.intro) | (with_reducible refine Lf.mk ?_ ?_) | (with_reducible intro hb))
  refine Cal (@eTy_eta) (H0) ?_
  refine Run (@eTy_eta) ?_; repeat' (first | (with_reducible exact True.intro) | (with_reducible refine Lf.mk ?_ ?_) | (with_reducible intro hb))
def fc272 := (And.intro (And.intro (And.intro (And.intro sz3 (And.intro ag3 zv3)) (And.intro un3 (And.intro sz4 ag4))) (And.intro (And.intro zv4 (And.intro un4 sz72)) (And.intro ag72 (And.intro zv72 sb72)))) (And.intro (And.intro (And.intro un72 (And.intro el72 ap72)) (And.intro sz74 (And.intro ag74 zv74))) (And.intro (And.intro fl74_0 (And.intro fl74_1 fl74_2)) (And.intro pl74 (And.intro okf214 sz38)))))
theorem eqTypeS_of (xs : List Ty) (hx : okLs (2^20) okTy xs) (H : ∀ t ∈ xs, FnP Try.prog 214 [agT (eTy t), agT (eTy t)] (bT true)) : FnS Try.prog 272 [] [slT eTy xs, slT eTy xs] [] (bT true) := by
  refine FnS.go [0, 1, 4, 5, 10, 14, 26] [] Try.func272 rfl (fun kt kz => ?_)
  have fcx := fc272
  simp only [Try.f272]
  have hx1 := hx.1
  refine Run (cast_succ) ?_; repeat' (first | (with_reducible exact True.intro) | (with_reducible refine Lf.mk ?_ ?_) | (with_reducible intro hb))
  refine Trn (α := Nat) [4, 5, 11, 12, 13, 14, 15, 16, 17, 18, 19, 20, 21, 22, 23, 24, 25, 26] (fun i => [(5, iT i)]) (fun i => []) (fun i => i ≤ xs.length) (fun i => xs.length - i) (0) (Nat.zero_le _) (cast_succ) ?_; intro lx hI; obtain i := lx; (try simp only [List.nil_append, List.cons_append] at hI ⊢)
  refine Run (@eTy_eta) ?_; repeat' (first | (with_reducible exact True.intro) | (with_reducible refine Lf.mk ?_ ?_) | (with_reducible intro hb))
  · refine Cal (@eTy_eta) (H _ (List.getElem_mem hb)) ?_
    refine Run (@eTy_eta) ?_; repeat' (first | (with_reducible exact True.intro) | (with_reducible refine Lf.mk ?_ ?_) | (with_reducible intro hb))
    exact Nxt (cast_succ) (lx + 1) (by omega) (by first | omega | (simp; omega))

theorem eqType_ok (t : Ty) (h : okTy (2^20) t) : FnP Try.prog 214 [agT (eTy t), agT (eTy t)] (bT true) := eqType_of t h (eqTypeS_of t.args ((okTy_iff.1 h).2.2) (fun u hu => eqType_ok u (((okTy_iff.1 h).2.2).2 u hu)))
termination_by SizeOf.sizeOf t
decreasing_by all_goals first | exact Ty.mem hu | exact Val.mem hu | exact Tm.mem hu | exact Pl.mem hu | exact Hd.memP hu | exact Hd.memQ hu | exact Cmp.memH _
theorem eqTypeS_ok (xs : List Ty) (h : okLs (2^20) okTy xs) : FnP Try.prog 272 [slT eTy xs, slT eTy xs] (bT true) := eqTypeS_of xs h (fun t ht => eqType_ok t (h.2 t ht))
theorem toType_ok (t : Ty) (h : okTy (2^20) t) : FnP Try.prog 211 [agT (eTy t)] (agT (eTy t)) := (toType_o t h 1000 1002 (by decide)).tree (by simp -dsimp (maxSteps := 2000000) (disch := omega) only [vs, ↓Option.bind_some, ev1, ofV, scalarB, Kn, Kb, calleeOf, evLoad, ptr, evField, evFieldAddr, shift, ↓pt_at, ↓pt_at1, evExtract, evBin, evLen, evConv, cellsT, noS, Cell.has, Cell.hasN, Cell.anyN, toIV, toIV0, toIVs, ownC, srcM, Ob.own, Ob.esz, allSc, nilK, lenC, ownCell, isPtr, ptrNil, frzO, Cell.frz, Cell.keys, ↓reduceIte, reduceCtorEq, Nat.reduceEqDiff, Nat.reduceBEq, Nat.reduceBNe, Nat.reduceAdd, Nat.reduceMul, Nat.reduceSub, Nat.reduceLT, Nat.reduceLeDiff, Nat.reducePow, Int.reduceLT, Int.reduceLE, Int.reduceEq, Int.reduceNe, quietB, Nat.reduceMod, Int.reduceToNat, ne_eq, eq_self, exists_const, evBytes, byRow, byL, byStr_size, ifsz, ByteArray.size_append, Option.none_or, Option.some_or, eTy_eta])
theorem toTypeS_ok (xs : List Ty) (h : okLs (2^20) okTy xs) : FnP Try.prog 270 [slT eTy xs] (slT eTy xs) := (toTypeS_o xs h 1000).tree (by simp -dsimp (maxSteps := 2000000) (disch := omega) only [vs, ↓Option.bind_some, ev1, ofV, scalarB, Kn, Kb, calleeOf, evLoad, ptr, evField, evFieldAddr, shift, ↓pt_at, ↓pt_at1, evExtract, evBin, evLen, evConv, cellsT, noS, Cell.has, Cell.hasN, Cell.anyN, toIV, toIV0, toIVs, ownC, srcM, Ob.own, Ob.esz, allSc, nilK, lenC, ownCell, isPtr, ptrNil, frzO, Cell.frz, Cell.keys, ↓reduceIte, reduceCtorEq, Nat.reduceEqDiff, Nat.reduceBEq, Nat.reduceBNe, Nat.reduceAdd, Nat.reduceMul, Nat.reduceSub, Nat.reduceLT, Nat.reduceLeDiff, Nat.reducePow, Int.reduceLT, Int.reduceLE, Int.reduceEq, Int.reduceNe, quietB, Nat.reduceMod, Int.reduceToNat, ne_eq, eq_self, exists_const, evBytes, byRow, byL, byStr_size, ifsz, ByteArray.size_append, Option.none_or, Option.some_or])

end Go.VC.T
