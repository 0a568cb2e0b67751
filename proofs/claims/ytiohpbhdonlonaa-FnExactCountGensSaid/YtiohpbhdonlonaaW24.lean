/- Runs through code, each under one name: the tactics stand as defaults of premises: no statement of a program. -/
import Derived.Test.YtiohpbhdonlonaaW23
set_option linter.unusedVariables false
namespace Go.VC
open Go
theorem ifsz {n : Nat} {α : Type} {a b : α} (h : (n : Int) ≤ 9223372036854775807) : (if (n : Int) ≤ 9223372036854775807 then a else b) = a := if_pos h
/-- The variables that are wanted later. -/
structure Kp (L : List Nat) : Prop where
/-- What is frozen at the return. -/
structure Ky (L : List Nat) : Prop where
/-- One goal, and more. -/
structure Lf (A B : Prop) : Prop where
  l : A
  r : B
/-- A proof, kept in a box. -/
structure Bx (p : Prop) : Type where
  h : p
/-- Always true: to tell what a proposition is. -/
inductive Dd (p : Prop) : Prop
  | mk
theorem Dd.t : Dd True := .mk
theorem Cont.keepK {P : Program} {s : St} {L : List Nat} (_ : Kp L) {d : Code} {K : Exit → St → Prop} (h : Sm P d ⟨s.N, keepE L s.E, s.σ⟩ K) : Cont P d K s := Cont.keep L h
theorem RetK.any {P : Program} {s : St} {ks : List Nat} (_ : Ky ks) {l : List ResultVar} {σ1 : Sto} {r : TV} {e : Exit} (he : e = .normal ∨ e = .ret) (h : retOf P (s.frzAll ks) l = some r) (h' : subS (s.frzAll ks).σ σ1) : RetK P l σ1 r e s :=
  ⟨he, ks, h, subS_ok h'⟩
theorem FnS.go {P : Program} {g : FuncId} {fn : Func} {c : Code} {args : List TV} {σ0 σ1 : Sto} {r : TV} (L ks : List Nat) (hf : P.funcs[g]? = some fn) (hb : fn.body = some c)
    (h : Kp L → Ky ks → Sm P c ⟨fn.ntmps, argE 0 args, σ0⟩ (RetK P fn.results.toList σ1 r))
    (hN : Nat.ble args.length fn.ntmps = true := by rfl) (hodd : ∀ k, (get σ0 k).isSome = true → k % 2 = 1 := by first | (intro k h; rw [get_nil] at h; cases h) | (simp [get_cons, get_nil]; try omega)) : FnS P g σ0 args σ1 r :=
  FnS.of hf hb (Nat.le_of_ble_eq_true hN) hodd (h ⟨⟩ ⟨⟩)
/-- How many operations of a drawn region may stand in any order. -/
structure Dk (n : Nat) : Prop where
theorem Sm.drawK {P : Program} {s : St} {id n : Nat} (_ : Dk n) {ops : Array Oper} {K : Exit → St → Prop} {l1 l2 : List Oper} (hm : P.follows .mixedOrders = true) (hb : drawB ops n = true) (h1 : ops.toList.take n = l1) (h2 : ops.toList.drop n = l2)
    (h : qW P ops l1 s fun s' => opsW P ops l2 s' (K .normal)) : Sm P (.region id ops true) s K := Sm.draw hm hb (by subst h1; subst h2; exact h)
theorem goQW {P : Program} {ops : Array Oper} {l : List Oper} {s : St} {K : St → Prop} (h : qW P ops l s K) : qW P ops l s K := h
theorem goOps {P : Program} {ops : Array Oper} {l : List Oper} {s : St} {K : St → Prop} (h : opsW P ops l s K) : opsW P ops l s K := h
theorem goDW {P : Program} {ops : Array Oper} {l : List Oper} {s : St} {K : St → Prop} (h : dW P ops l s K) : dW P ops l s K := h
theorem goOn {α : Type} {o : Option α} {f : α → Prop} {t : Tg f} (h : onS o f t) : onS o f t := h
theorem goGd {g : Option Bool} {X Y : Prop} {t : Tg X} {t' : Tg Y} (h : gdP g X Y t t') : gdP g X Y t t' := h
/-- Run on to what must be told by hand: at most nine goals. -/
theorem Run {F G R1 R2 R3 R4 R5 R6 R7 R8 R9 : Prop} (f : F) (r : Lf R1 (Lf R2 (Lf R3 (Lf R4 (Lf R5 (Lf R6 (Lf R7 (Lf R8 R9))))))))
    (d : F → Bx R1 → Bx R2 → Bx R3 → Bx R4 → Bx R5 → Bx R6 → Bx R7 → Bx R8 → Bx R9 → Lf G (Lf (Dd R1) (Lf (Dd R2) (Lf (Dd R3) (Lf (Dd R4) (Lf (Dd R5) (Lf (Dd R6) (Lf (Dd R7) (Lf (Dd R8) (Dd R9))))))))) := by
      intro fx r1 r2 r3 r4 r5 r6 r7 r8 r9
      refine Lf.mk ?_ ?_
      · repeat' (first
          | ((with_reducible refine Cont.keepK kt ?_); try simp only [keepE, memN, delN, ↓reduceIte, Nat.reduceEqDiff, Bool.false_eq_true])
          | (with_reducible refine Sm.seq ?_)
          | (with_reducible refine Sm.block ?_)
          | ((first | (with_reducible refine Sm.skip ?_) | (with_reducible refine Sm.exit ?_) | (with_reducible refine Sm.ret ?_)); try simp only [Kn, Kb, ↓reduceIte, Nat.reduceEqDiff])
          | (((first | (with_reducible refine Sm.region ?_) | (with_reducible refine Sm.drawK dn mixed (by decide +kernel) (by (simp only [List.take_succ_cons, List.take_zero, List.drop_succ_cons, List.drop_zero]); exact rfl) (by (simp only [List.take_succ_cons, List.take_zero, List.drop_succ_cons, List.drop_zero]); exact rfl) ?_) | (with_reducible refine Sm.drawT mixed (by decide +kernel) ?_) | (with_reducible refine RetK.any kz (by simp) ?_ ?_) | (with_reducible refine Sm.test ?_) | (with_reducible refine goOps ?_) | (with_reducible refine goDW ?_) | (with_reducible refine goQW ?_) | (with_reducible refine goOn ?_) | (with_reducible refine goGd ?_)) <;> simp -dsimp (maxSteps := 2000000) (disch := omega) only [vs, ↓Option.bind_some, ev1, ofV, scalarB, Kn, Kb, calleeOf, evLoad, ptr, evField, evFieldAddr, shift, ↓pt_at, ↓pt_at1, evExtract, evBin, evLen, evConv, cellsT, noS, Cell.has, Cell.hasN, Cell.anyN, toIV, toIV0, toIVs, ownC, srcM, Ob.own, Ob.esz, allSc, nilK, lenC, ownCell, isPtr, ptrNil, frzO, Cell.frz, Cell.keys, ↓reduceIte, reduceCtorEq, Nat.reduceEqDiff, Nat.reduceBEq, Nat.reduceBNe, Nat.reduceAdd, Nat.reduceMul, Nat.reduceSub, Nat.reduceLT, Nat.reduceLeDiff, Nat.reducePow, Int.reduceLT, Int.reduceLE, Int.reduceEq, Int.reduceNe, quietB, Nat.reduceMod, Int.reduceToNat, ne_eq, eq_self, exists_const, evBytes, byRow, byL, byStr_size, ifsz, ByteArray.size_append, Option.none_or, Option.some_or, fcx, fx]); try (with_reducible refine ⟨fun hq => ?_, fun hq => ?_⟩ <;> (try simp only [vh, ne_eq] at hq)))
          | ((with_reducible refine gdP_split (fun hq => ?_) (fun hq => ?_)) <;> ((try simp only [vh, ne_eq] at hq); simp -dsimp (maxSteps := 2000000) (disch := omega) only [vs, ↓Option.bind_some, ev1, ofV, scalarB, Kn, Kb, calleeOf, evLoad, ptr, evField, evFieldAddr, shift, ↓pt_at, ↓pt_at1, evExtract, evBin, evLen, evConv, cellsT, noS, Cell.has, Cell.hasN, Cell.anyN, toIV, toIV0, toIVs, ownC, srcM, Ob.own, Ob.esz, allSc, nilK, lenC, ownCell, isPtr, ptrNil, frzO, Cell.frz, Cell.keys, ↓reduceIte, reduceCtorEq, Nat.reduceEqDiff, Nat.reduceBEq, Nat.reduceBNe, Nat.reduceAdd, Nat.reduceMul, Nat.reduceSub, Nat.reduceLT, Nat.reduceLeDiff, Nat.reducePow, Int.reduceLT, Int.reduceLE, Int.reduceEq, Int.reduceNe, quietB, Nat.reduceMod, Int.reduceToNat, ne_eq, eq_self, exists_const, evBytes, byRow, byL, byStr_size, ifsz, ByteArray.size_append, Option.none_or, Option.some_or, fcx, hq, fx]))
          | (with_reducible refine ⟨(by first | omega | (simp only [maxLen]; omega)), ?_⟩)
          | fail)
        all_goals ((repeat revert hq); first | (with_reducible exact r1.h) | (with_reducible exact r2.h) | (with_reducible exact r3.h) | (with_reducible exact r4.h) | (with_reducible exact r5.h) | (with_reducible exact r6.h) | (with_reducible exact r7.h) | (with_reducible exact r8.h) | (with_reducible exact r9.h))
      · (refine ⟨?_, ?_, ?_, ?_, ?_, ?_, ?_, ?_, ?_⟩) <;> first | (with_reducible exact Dd.t) | (with_reducible exact Dd.mk)) : G :=
  (d f ⟨r.l⟩ ⟨r.r.l⟩ ⟨r.r.r.l⟩ ⟨r.r.r.r.l⟩ ⟨r.r.r.r.r.l⟩ ⟨r.r.r.r.r.r.l⟩ ⟨r.r.r.r.r.r.r.l⟩ ⟨r.r.r.r.r.r.r.r.l⟩ ⟨r.r.r.r.r.r.r.r.r⟩).l
/-- A call by its contract; the result is a scalar, or new objects. -/
theorem Cal {F C G R : Prop} (f : F) (c : C) (r : R) (d : F → C → Bx R → G := by
      intro fx cx rx
      (first
        | refine CallG.pure cx ?_ ⟨(by first | rfl | simp [TV.keys, keysL_im, agT, keysIn]), (by first | rfl | simp [TV.keys, keysL_im, agT, keysIn])⟩ ⟨(by first | rfl | simp [TV.keys, keysL_im, agT, keysIn]), (by first | rfl | simp [TV.keys, keysL_im, agT, keysIn])⟩ ?_ (by simp only [Nat.reduceLT]) ?_
        | refine CallQ.pure cx ?_ (by first | rfl | simp [TV.keys, keysL_im, agT, keysIn]) (by first | rfl | simp [TV.keys, keysL_im, agT, keysIn]) ?_) <;> ((try simp -dsimp (maxSteps := 2000000) (disch := omega) only [vs, ↓Option.bind_some, ev1, ofV, scalarB, Kn, Kb, calleeOf, evLoad, ptr, evField, evFieldAddr, shift, ↓pt_at, ↓pt_at1, evExtract, evBin, evLen, evConv, cellsT, noS, Cell.has, Cell.hasN, Cell.anyN, toIV, toIV0, toIVs, ownC, srcM, Ob.own, Ob.esz, allSc, nilK, lenC, ownCell, isPtr, ptrNil, frzO, Cell.frz, Cell.keys, ↓reduceIte, reduceCtorEq, Nat.reduceEqDiff, Nat.reduceBEq, Nat.reduceBNe, Nat.reduceAdd, Nat.reduceMul, Nat.reduceSub, Nat.reduceLT, Nat.reduceLeDiff, Nat.reducePow, Int.reduceLT, Int.reduceLE, Int.reduceEq, Int.reduceNe, quietB, Nat.reduceMod, Int.reduceToNat, ne_eq, eq_self, exists_const, evBytes, byRow, byL, byStr_size, ifsz, ByteArray.size_append, Option.none_or, Option.some_or, fcx, fx]) <;> first | (with_reducible rfl) | exact rx.h)) : G := d f c ⟨r⟩
/-- A call by its contract; what is handed over is all's. -/
theorem CalI {F C G R : Prop} (f : F) (c : C) (r : R) (d : F → C → Bx R → G := by
      intro fx cx rx
      (first
        | refine CallG.val cx ?_ ⟨(by first | rfl | simp [TV.keys, keysL_im, agT, keysIn]), (by first | rfl | simp [TV.keys, keysL_im, agT, keysIn])⟩ ?_ (by simp only [Nat.reduceLT]) ?_
        | refine CallQ.val cx ?_ (by first | rfl | simp [TV.keys, keysL_im, agT, keysIn]) ?_) <;> ((try simp -dsimp (maxSteps := 2000000) (disch := omega) only [vs, ↓Option.bind_some, ev1, ofV, scalarB, Kn, Kb, calleeOf, evLoad, ptr, evField, evFieldAddr, shift, ↓pt_at, ↓pt_at1, evExtract, evBin, evLen, evConv, cellsT, noS, Cell.has, Cell.hasN, Cell.anyN, toIV, toIV0, toIVs, ownC, srcM, Ob.own, Ob.esz, allSc, nilK, lenC, ownCell, isPtr, ptrNil, frzO, Cell.frz, Cell.keys, ↓reduceIte, reduceCtorEq, Nat.reduceEqDiff, Nat.reduceBEq, Nat.reduceBNe, Nat.reduceAdd, Nat.reduceMul, Nat.reduceSub, Nat.reduceLT, Nat.reduceLeDiff, Nat.reducePow, Int.reduceLT, Int.reduceLE, Int.reduceEq, Int.reduceNe, quietB, Nat.reduceMod, Int.reduceToNat, ne_eq, eq_self, exists_const, evBytes, byRow, byL, byStr_size, ifsz, ByteArray.size_append, Option.none_or, Option.some_or, fcx, fx]) <;> first | (with_reducible rfl) | exact rx.h)) : G := d f c ⟨r⟩
/-- A loop, by its variables and objects at a round's head. -/
theorem Trn {F : Prop} {P : Program} {s : St} {α : Type} {c : Code} {K : Exit → St → Prop} (M : List Nat) (u : α → Env) (τ : α → Sto) (ok : α → Prop) (μ : α → Nat) (x0 : α) (h0 : ok x0) (f : F) {R : α → Prop} (r : ∀ x, ok x → R x)
    (hE : F → subE s.E (u x0) := by intro fx; first | trivial | (simp -dsimp (maxSteps := 2000000) (disch := omega) only [vs, ↓Option.bind_some, ev1, ofV, scalarB, Kn, Kb, calleeOf, evLoad, ptr, evField, evFieldAddr, shift, ↓pt_at, ↓pt_at1, evExtract, evBin, evLen, evConv, cellsT, noS, Cell.has, Cell.hasN, Cell.anyN, toIV, toIV0, toIVs, ownC, srcM, Ob.own, Ob.esz, allSc, nilK, lenC, ownCell, isPtr, ptrNil, frzO, Cell.frz, Cell.keys, ↓reduceIte, reduceCtorEq, Nat.reduceEqDiff, Nat.reduceBEq, Nat.reduceBNe, Nat.reduceAdd, Nat.reduceMul, Nat.reduceSub, Nat.reduceLT, Nat.reduceLeDiff, Nat.reducePow, Int.reduceLT, Int.reduceLE, Int.reduceEq, Int.reduceNe, quietB, Nat.reduceMod, Int.reduceToNat, ne_eq, eq_self, exists_const, evBytes, byRow, byL, byStr_size, ifsz, ByteArray.size_append, Option.none_or, Option.some_or, fcx, fx]; try trivial))
    (hS : F → subS s.σ (τ x0) := by intro fx; first | trivial | (simp -dsimp (maxSteps := 2000000) (disch := omega) only [vs, ↓Option.bind_some, ev1, ofV, scalarB, Kn, Kb, calleeOf, evLoad, ptr, evField, evFieldAddr, shift, ↓pt_at, ↓pt_at1, evExtract, evBin, evLen, evConv, cellsT, noS, Cell.has, Cell.hasN, Cell.anyN, toIV, toIV0, toIVs, ownC, srcM, Ob.own, Ob.esz, allSc, nilK, lenC, ownCell, isPtr, ptrNil, frzO, Cell.frz, Cell.keys, ↓reduceIte, reduceCtorEq, Nat.reduceEqDiff, Nat.reduceBEq, Nat.reduceBNe, Nat.reduceAdd, Nat.reduceMul, Nat.reduceSub, Nat.reduceLT, Nat.reduceLeDiff, Nat.reducePow, Int.reduceLT, Int.reduceLE, Int.reduceEq, Int.reduceNe, quietB, Nat.reduceMod, Int.reduceToNat, ne_eq, eq_self, exists_const, evBytes, byRow, byL, byStr_size, ifsz, ByteArray.size_append, Option.none_or, Option.some_or, fcx, fx]; try trivial))
    (d : ∀ x, Bx (R x) → Sm P c ⟨s.N, u x ++ dropE M s.E, τ x⟩ (Kn (RoundC (fun x => ⟨s.N, u x ++ dropE M s.E, τ x⟩) ok μ x) K) := by
      intro x rx
      simp only [dropE, memN, ↓reduceIte, Nat.reduceEqDiff, Bool.false_eq_true, List.nil_append, List.cons_append, List.append_nil, reduceCtorEq]
      exact rx.h) : Sm P (.loop c) s K :=
  Sm.turns M u τ ok μ x0 h0 (hE f) (hS f) fun x hx => d x ⟨r x hx⟩
/-- The next round. -/
theorem Nxt {F : Prop} {α : Type} {inv : α → St} {ok : α → Prop} {μ : α → Nat} {x : α} {s' : St} (f : F) (y : α) (h1 : ok y) (h2 : μ y < μ x)
    (h4 : F → subE s'.E (inv y).E := by intro fx; first | trivial | (simp -dsimp (maxSteps := 2000000) (disch := omega) only [vs, ↓Option.bind_some, ev1, ofV, scalarB, Kn, Kb, calleeOf, evLoad, ptr, evField, evFieldAddr, shift, ↓pt_at, ↓pt_at1, evExtract, evBin, evLen, evConv, cellsT, noS, Cell.has, Cell.hasN, Cell.anyN, toIV, toIV0, toIVs, ownC, srcM, Ob.own, Ob.esz, allSc, nilK, lenC, ownCell, isPtr, ptrNil, frzO, Cell.frz, Cell.keys, ↓reduceIte, reduceCtorEq, Nat.reduceEqDiff, Nat.reduceBEq, Nat.reduceBNe, Nat.reduceAdd, Nat.reduceMul, Nat.reduceSub, Nat.reduceLT, Nat.reduceLeDiff, Nat.reducePow, Int.reduceLT, Int.reduceLE, Int.reduceEq, Int.reduceNe, quietB, Nat.reduceMod, Int.reduceToNat, ne_eq, eq_self, exists_const, evBytes, byRow, byL, byStr_size, ifsz, ByteArray.size_append, Option.none_or, Option.some_or, fcx, fx]; try trivial))
    (h5 : F → subS s'.σ (inv y).σ := by intro fx; first | trivial | (simp -dsimp (maxSteps := 2000000) (disch := omega) only [vs, ↓Option.bind_some, ev1, ofV, scalarB, Kn, Kb, calleeOf, evLoad, ptr, evField, evFieldAddr, shift, ↓pt_at, ↓pt_at1, evExtract, evBin, evLen, evConv, cellsT, noS, Cell.has, Cell.hasN, Cell.anyN, toIV, toIV0, toIVs, ownC, srcM, Ob.own, Ob.esz, allSc, nilK, lenC, ownCell, isPtr, ptrNil, frzO, Cell.frz, Cell.keys, ↓reduceIte, reduceCtorEq, Nat.reduceEqDiff, Nat.reduceBEq, Nat.reduceBNe, Nat.reduceAdd, Nat.reduceMul, Nat.reduceSub, Nat.reduceLT, Nat.reduceLeDiff, Nat.reducePow, Int.reduceLT, Int.reduceLE, Int.reduceEq, Int.reduceNe, quietB, Nat.reduceMod, Int.reduceToNat, ne_eq, eq_self, exists_const, evBytes, byRow, byL, byStr_size, ifsz, ByteArray.size_append, Option.none_or, Option.some_or, fcx, fx]; try trivial)) (h3 : s'.N = (inv y).N := by rfl) : RoundC inv ok μ x s' :=
  RoundC.mk y h1 h2 h3 (h4 f) (h5 f)
end Go.VC
