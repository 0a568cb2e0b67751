/- Data (Mono): how they are measured, copied and compared. -/
import Derived.Test.YtiohpbhdonlonaaA2
namespace Go.VC.T
open Go Go.VC Go.Proofs Go.VC.F
set_option linter.unusedSimpArgs false
set_option linter.unusedVariables false
set_option linter.defProp false
set_option maxRecDepth 100000
set_option maxHeartbeats 2000000
def fc196 := (And.intro (And.intro (And.intro (And.intro sz3 ag3) (And.intro zv3 (And.intro un3 sz4))) (And.intro (And.intro ag4 (And.intro zv4 un4)) (And.intro sz38 (And.intro ag38 zv38)))) (And.intro (And.intro (And.intro sb38 un38) (And.intro el38 (And.intro ap38 sz261))) (And.intro (And.intro ag261 (And.intro zv261 fl261_0)) (And.intro fl261_1 (And.intro pl261 okf33)))))
theorem szMono_ok (t : Mono) (h : okMono (2^48) t) (left : Int) (hl : 0 ≤ left ∧ left ≤ 2^20) : FnS Try.prog 196 [] [agT (eMono t), iT left] [] (iT (szR (zMono t) left)) := by
  refine FnS.go [0, 1, 2, 4, 10] [] Try.func196 rfl (fun kt kz => ?_)
  have fcx := fc196
  simp only [Try.f196]
  have ho := okMono_iff.1 h
  refine Run ((And.intro @eMono_eta @szR_add)) ?_; repeat' (first | (with_reducible exact True.intro) | (with_reducible refine Lf.mk ?_ ?_) | (with_reducible intro hb))
  refine Cal ((And.intro @eMono_eta @szR_add)) (szStringS_ok _ ho.2 _ hl) ?_
  have hz := szR_le (n := zSL t.vars) hl.1
  refine Run ((And.intro @eMono_eta @szR_add)) ?_; repeat' (first | (with_reducible exact True.intro) | (with_reducible refine Lf.mk ?_ ?_) | (with_reducible intro hb))
  · congr 4; have s1 := szR_spec (zSL t.vars) left; have s2 := szR_spec (zMono t) left; rw [zMono_eta] at s2 ⊢; omega
  · skip
    rw [zMono_eta]
def fc107 := (And.intro (And.intro (And.intro (And.intro sz3 ag3) (And.intro zv3 (And.intro un3 sz4))) (And.intro (And.intro ag4 (And.intro zv4 un4)) (And.intro sz35 (And.intro ag35 zv35)))) (And.intro (And.intro (And.intro sb35 (And.intro un35 el35)) (And.intro ap35 (And.intro sz261 ag261))) (And.intro (And.intro zv261 (And.intro fl261_0 fl261_1)) (And.intro pl261 (And.intro okf196 sz38)))))
theorem szMonoS_of (xs : List Mono) (hx : okLs (2^48) okMono xs) (H : ∀ t ∈ xs, ∀ left : Int, 0 ≤ left ∧ left ≤ 2^20 → FnP Try.prog 196 [agT (eMono t), iT left] (iT (szR (zMono t) left))) (left : Int) (hl : 0 ≤ left ∧ left ≤ 2^20) : FnS Try.prog 107 [] [slT eMono xs, iT left] [] (iT (szR (zL zMono xs) left)) := by
  refine FnS.go [0, 1, 4, 5, 11, 15, 25] [] Try.func107 rfl (fun kt kz => ?_)
  have fcx := fc107
  simp only [Try.f107]
  have hx1 := hx.1
  refine Run (cast_succ) ?_; repeat' (first | (with_reducible exact True.intro) | (with_reducible refine Lf.mk ?_ ?_) | (with_reducible intro hb))
  · simp only [szR_nil hb zL_len]
  · rw [szR_sub hb]
    have hb2 := szR_sub hb ▸ hb
    refine Trn (α := Nat) [1, 4, 5, 12, 13, 14, 15, 16, 17, 18, 19, 20, 21, 22, 23, 24, 25] (fun i => [(5, iT i), (1, iT (szR (zT zMono xs i) left))]) (fun i => []) (fun i => i ≤ xs.length ∧ 0 ≤ szR (zT zMono xs i) left) (fun i => xs.length - i) (0) (⟨Nat.zero_le _, by rw [zT_zero]; exact hb2⟩) ((zT_zero (z := zMono) (l := xs))) ?_; intro lx hI; obtain i := lx; (try simp only [List.nil_append, List.cons_append] at hI ⊢)
    have hz := szR_le (n := zT zMono xs lx) hl.1
    by_cases hlt : lx < xs.length
    · have e : szR (zMono xs[lx]) (szR (zT zMono xs lx) left) = szR (zT zMono xs (lx + 1)) left := by rw [zT_succ hlt, ← szR_add]
      refine Run (@eMono_eta) ?_; repeat' (first | (with_reducible exact True.intro) | (with_reducible refine Lf.mk ?_ ?_) | (with_reducible intro hb))
      · refine Cal (@eMono_eta) (H _ (List.getElem_mem hlt) _ ⟨hI.2, by omega⟩) ?_
        refine Run (cast_succ) ?_; repeat' (first | (with_reducible exact True.intro) | (with_reducible refine Lf.mk ?_ ?_) | (with_reducible intro hb))
        · rw [e] at hb
          rw [szR_neg hb zT_le]
        · rw [e] at hb
          exact Nxt (@e) (lx + 1) (⟨by omega, hb⟩) (by first | omega | (simp; omega))
      · omega
    · refine Run (cast_succ) ?_; repeat' (first | (with_reducible exact True.intro) | (with_reducible refine Lf.mk ?_ ?_) | (with_reducible intro hb))
      · omega
      · rw [zT_all (by omega)]

theorem szMonoS_ok (xs : List Mono) (h : okLs (2^48) okMono xs) (left : Int) (hl : 0 ≤ left ∧ left ≤ 2^20) : FnP Try.prog 107 [slT eMono xs, iT left] (iT (szR (zL zMono xs) left)) := szMonoS_of xs h (fun t ht left hl => szMono_ok t (h.2 t ht) left hl) left hl
def fc199 := (And.intro (And.intro (And.intro (And.intro sz3 (And.intro ag3 zv3)) (And.intro un3 (And.intro sz38 ag38))) (And.intro (And.intro zv38 (And.intro sb38 un38)) (And.intro el38 (And.intro ap38 sz149)))) (And.intro (And.intro (And.intro ag149 (And.intro zv149 fl149_0)) (And.intro fl149_1 (And.intro pl149 sz261))) (And.intro (And.intro ag261 (And.intro zv261 fl261_0)) (And.intro fl261_1 (And.intro pl261 okf36)))))
theorem toMono_w (t : Mono) (h : okMono (2^20) t) : FnS Try.prog 199 [] [agT (eMono t)] [(1000, .row t.vars.length (t.vars.flatMap eS))] (.ag [.im (.sc (.int .i64 t.coef)), .os 1000 t.vars.length]) := by
  refine FnS.go [0, 1, 2, 3] [] Try.func199 rfl (fun kt kz => ?_)
  have fcx := fc199
  simp only [Try.f199]
  have ho := okMono_iff.1 h
  refine Run (@eMono_eta) ?_; repeat' (first | (with_reducible exact True.intro) | (with_reducible refine Lf.mk ?_ ?_) | (with_reducible intro hb))
  refine CalI (@eMono_eta) (toStringS_o _ ho.2 1000) ?_
  refine Run (@eMono_eta) ?_; repeat' (first | (with_reducible exact True.intro) | (with_reducible refine Lf.mk ?_ ?_) | (with_reducible intro hb))

theorem toMono_o (t : Mono) (h : okMono (2^20) t) : ∀ q0 : Nat, [q0].Nodup → FnS Try.prog 199 [] [agT (eMono t)] [(q0, .row t.vars.length (t.vars.flatMap eS))] (.ag [.im (.sc (.int .i64 t.coef)), .os q0 t.vars.length]) := by
  intro q0 hq
  obtain ⟨p, hp⟩ := pml [1000] [q0] (by decide) hq rfl
  simp only [List.map_cons, List.map_nil, List.cons.injEq, and_true] at hp
  refine ((toMono_w t h).rows.pm p).as ?_ ?_ <;> simp [rowS, rowO, renS, Ob.ren, TV.ren, renL, Cell.ren, hp]
def fc110 := (And.intro (And.intro (And.intro (And.intro (And.intro sz3 ag3) (And.intro zv3 un3)) (And.intro (And.intro sz4 ag4) (And.intro zv4 (And.intro un4 sz22)))) (And.intro (And.intro (And.intro ag22 zv22) (And.intro sb22 un22)) (And.intro (And.intro el22 ap22) (And.intro sz35 (And.intro ag35 zv35))))) (And.intro (And.intro (And.intro (And.intro sb35 un35) (And.intro el35 ap35)) (And.intro (And.intro sz149 ag149) (And.intro zv149 (And.intro fl149_0 fl149_1)))) (And.intro (And.intro (And.intro pl149 sz261) (And.intro ag261 zv261)) (And.intro (And.intro fl261_0 fl261_1) (And.intro pl261 (And.intro okf199 sz38))))))
theorem toMonoS_w (xs : List Mono) (hx : okLs (2^20) okMono xs) (H : ∀ t ∈ xs, ∀ q0 : Nat, [q0].Nodup → FnS Try.prog 199 [] [agT (eMono t)] [(q0, .row t.vars.length (t.vars.flatMap eS))] (.ag [.im (.sc (.int .i64 t.coef)), .os q0 t.vars.length])) : FnS Try.prog 110 [] [slT eMono xs] [(14, .vec 149 2 xs.length (xs.flatMap eMono) true)] (.c (.os 14 xs.length)) := by
  refine FnS.go [0, 2, 3, 4, 11] [] Try.func110 rfl (fun kt kz => ?_)
  have fcx := fc110
  simp only [Try.f110]
  have hx1 := hx.1
  refine Run (cast_succ) ?_; repeat' (first | (with_reducible exact True.intro) | (with_reducible refine Lf.mk ?_ ?_) | (with_reducible intro hb))
  refine Trn (α := Nat) [4, 8, 9, 10, 11, 12, 13, 14, 15, 16, 17, 18, 19, 20, 21] (fun i => [(4, iT i), (3, .c (.os 14 xs.length))]) (fun i => [(14, .vec 149 2 xs.length (filled eMono [.sc (.int .i64 0), .sl 0 []] xs i) true)]) (fun i => i ≤ xs.length) (fun i => xs.length - i) (0) (Nat.zero_le _) (cast_succ) ?_; intro lx hI; obtain i := lx; (try simp only [List.nil_append, List.cons_append] at hI ⊢)
  refine Run (@eMono_eta) ?_; repeat' (first | (with_reducible exact True.intro) | (with_reducible refine Lf.mk ?_ ?_) | (with_reducible intro hb))
  · refine CalI (@eMono_eta) (H _ (List.getElem_mem hb) 1000 (by decide)) ?_
    refine Run (@eMono_eta) ?_; repeat' (first | (with_reducible exact True.intro) | (with_reducible refine Lf.mk ?_ ?_) | (with_reducible intro hb))
    have hs := filled_step' (E := eMono) (zs := [.sc (.int .i64 0), .sl 0 []]) hb
    simp only [eMono_eta, setL_st, stL_one, slI] at hs
    exact Nxt (@hs) (lx + 1) (by omega) (by first | omega | (simp; omega))

theorem toMonoS_q (xs : List Mono) (hx : okLs (2^20) okMono xs) (H : ∀ t ∈ xs, ∀ q0 : Nat, [q0].Nodup → FnS Try.prog 199 [] [agT (eMono t)] [(q0, .row t.vars.length (t.vars.flatMap eS))] (.ag [.im (.sc (.int .i64 t.coef)), .os q0 t.vars.length])) (q : Nat) : FnS Try.prog 110 [] [slT eMono xs] [(q, .row xs.length (xs.flatMap eMono))] (.c (.os q xs.length)) := by
  obtain ⟨p, hp⟩ := pm1 14 q
  refine ((toMonoS_w xs hx H).rows.pm p).as ?_ ?_ <;> simp [rowS, rowO, renS, Ob.ren, TV.ren, Cell.ren, hp]

theorem toMonoS_o (xs : List Mono) (h : okLs (2^20) okMono xs) (q : Nat) : FnS Try.prog 110 [] [slT eMono xs] [(q, .row xs.length (xs.flatMap eMono))] (.c (.os q xs.length)) := toMonoS_q xs h (fun t ht => toMono_o t (h.2 t ht)) q
def fc192 := (And.intro (And.intro (And.intro (And.intro sz3 ag3) (And.intro zv3 (And.intro un3 sz4))) (And.intro (And.intro ag4 (And.intro zv4 un4)) (And.intro sz38 (And.intro ag38 zv38)))) (And.intro (And.intro (And.intro sb38 un38) (And.intro el38 (And.intro ap38 sz149))) (And.intro (And.intro ag149 (And.intro zv149 fl149_0)) (And.intro fl149_1 (And.intro pl149 okf38)))))
theorem eqMono_ok (t : Mono) (h : okMono (2^20) t) : FnS Try.prog 192 [] [agT (eMono t), agT (eMono t)] [] (bT true) := by
  refine FnS.go [0, 1, 2, 3, 4, 9, 15] [] Try.func192 rfl (fun kt kz => ?_)
  have fcx := fc192
  simp only [Try.f192]
  have ho := okMono_iff.1 h
  refine Run (@eMono_eta) ?_; repeat' (first | (with_reducible exact True.intro) | (with_reducible refine Lf.mk ?_ ?_) | (with_reducible intro hb))
  refine Cal (@eMono_eta) (eqStringS_rf _ ho.2) ?_
  refine Run (@eMono_eta) ?_; repeat' (first | (with_reducible exact True.intro) | (with_reducible refine Lf.mk ?_ ?_) | (with_reducible intro hb))
def fc95 := (And.intro (And.intro (And.intro (And.intro sz3 ag3) (And.intro zv3 (And.intro un3 sz4))) (And.intro (And.intro ag4 (And.intro zv4 un4)) (And.intro sz22 (And.intro ag22 zv22)))) (And.intro (And.intro (And.intro sb22 (And.intro un22 el22)) (And.intro ap22 (And.intro sz149 ag149))) (And.intro (And.intro zv149 (And.intro fl149_0 fl149_1)) (And.intro pl149 (And.intro okf192 sz38)))))
theorem eqMonoS_of (xs : List Mono) (hx : okLs (2^20) okMono xs) (H : ∀ t ∈ xs, FnP Try.prog 192 [agT (eMono t), agT (eMono t)] (bT true)) : FnS Try.prog 95 [] [slT eMono xs, slT eMono xs] [] (bT true) := by
  refine FnS.go [0, 1, 4, 5, 10, 14, 26] [] Try.func95 rfl (fun kt kz => ?_)
  have fcx := fc95
  simp only [Try.f95]
  have hx1 := hx.1
  refine Run (cast_succ) ?_; repeat' (first | (with_reducible exact True.intro) | (with_reducible refine Lf.mk ?_ ?_) | (with_reducible intro hb))
  refine Trn (α := Nat) [4, 5, 11, 12, 13, 14, 15, 16, 17, 18, 19, 20, 21, 22, 23, 24, 25, 26] (fun i => [(5, iT i)]) (fun i => []) (fun i => i ≤ xs.length) (fun i => xs.length - i) (0) (Nat.zero_le _) (cast_succ) ?_; intro lx hI; obtain i := lx; (try simp only [List.nil_append, List.cons_append] at hI ⊢)
  refine Run (@eMono_eta) ?_; repeat' (first | (with_reducible exact True.intro) | (with_reducible refine Lf.mk ?_ ?_) | (with_reducible intro hb))
  · refine Cal (@eMono_eta) (H _ (List.getElem_mem hb)) ?_
    refine Run (@eMono_eta) ?_; repeat' (first | (with_reducible exact True.intro) | (with_reducible refine Lf.mk ?_ ?_) | (with_reducible intro hb))
    exact Nxt (cast_succ) (lx + 1) (by omega) (by first | omega | (simp; omega))

theorem eqMonoS_ok (xs : List Mono) (h : okLs (2^20) okMono xs) : FnP Try.prog 95 [slT eMono xs, slT eMono xs] (bT true) := eqMonoS_of xs h (fun t ht => eqMono_ok t (h.2 t ht))
theorem toMono_ok (t : Mono) (h : okMono (2^20) t) : FnP Try.prog 199 [agT (eMono t)] (agT (eMono t)) := (toMono_o t h 1000 (by decide)).tree (by simp -dsimp (maxSteps := 2000000) (disch := omega) only [vs, ↓Option.bind_some, ev1, ofV, scalarB, Kn, Kb, calleeOf, evLoad, ptr, evField, evFieldAddr, shift, ↓pt_at, ↓pt_at1, evExtract, evBin, evLen, evConv, cellsT, noS, Cell.has, Cell.hasN, Cell.anyN, toIV, toIV0, toIVs, ownC, srcM, Ob.own, Ob.esz, allSc, nilK, lenC, ownCell, isPtr, ptrNil, frzO, Cell.frz, Cell.keys, ↓reduceIte, reduceCtorEq, Nat.reduceEqDiff, Nat.reduceBEq, Nat.reduceBNe, Nat.reduceAdd, Nat.reduceMul, Nat.reduceSub, Nat.reduceLT, Nat.reduceLeDiff, Nat.reducePow, Int.reduceLT, Int.reduceLE, Int.reduceEq, Int.reduceNe, quietB, Nat.reduceMod, Int.reduceToNat, ne_eq, eq_self, exists_const, evBytes, byRow, byL, byStr_size, ifsz, ByteArray.size_append, Option.none_or, Option.some_or, eMono_eta])
theorem toMonoS_ok (xs : List Mono) (h : okLs (2^20) okMono xs) : FnP Try.prog 110 [slT eMono xs] (slT eMono xs) := (toMonoS_o xs h 1000).tree (by simp -dsimp (maxSteps := 2000000) (disch := omega) only [vs, ↓Option.bind_some, ev1, ofV, scalarB, Kn, Kb, calleeOf, evLoad, ptr, evField, evFieldAddr, shift, ↓pt_at, ↓pt_at1, evExtract, evBin, evLen, evConv, cellsT, noS, Cell.has, Cell.hasN, Cell.anyN, toIV, toIV0, toIVs, ownC, srcM, Ob.own, Ob.esz, allSc, nilK, lenC, ownCell, isPtr, ptrNil, frzO, Cell.frz, Cell.keys, ↓reduceIte, reduceCtorEq, Nat.reduceEqDiff, Nat.reduceBEq, Nat.reduceBNe, Nat.reduceAdd, Nat.reduceMul, Nat.reduceSub, Nat.reduceLT, Nat.reduceLeDiff, Nat.reducePow, Int.reduceLT, Int.reduceLE, Int.reduceEq, Int.reduceNe, quietB, Nat.reduceMod, Int.reduceToNat, ne_eq, eq_self, exists_const, evBytes, byRow, byL, byStr_size, ifsz, ByteArray.size_append, Option.none_or, Option.some_or])

end Go.VC.T
