/- Types that are right: by the program; row types, schemas on both sides. -/
import Derived.Test.YtgljcadheoijfaaGreatG5L27
import Derived.Test.YtgljcadheoijfaaGreatG4WL27
import Derived.RangeFuncBox
import Derived.RangeFuncLeaves
import Derived.Shelf.Abstract
import Derived.WalkKit
import Derived.OwnWalkIn
import Derived.TacticsInMore
import Derived.LoopNIn
import Derived.LoopIn
import Derived.Test.YtgljcadheoijfaaGreatProg
import Derived.RangeFuncNested
set_option linter.unusedSimpArgs false
set_option linter.unusedVariables false
set_option linter.defProp false
set_option maxRecDepth 100000
set_option maxHeartbeats 2000000
namespace Go.VC
open Go
theorem tMany_map (v : Ty) : (if v.kind = 5 then Value.int .i64 2 else if v.kind = 4 then Value.int .i64 1 else if v.kind = 3 then Value.int .i64 (v.labels.length : Int) else Value.int .i64 0) = Value.int .i64 (tMany v : Int) := by
  unfold tMany
  by_cases h3 : v.kind = 3
  · simp [h3]
  · by_cases h5 : v.kind = 5
    · simp [h5]
    · by_cases h4 : v.kind = 4
      · simp [h4]
      · simp [h3, h4, h5]
def TFb (t : Ty) (b : Bool) (deep : Int) : Prop := TFd t (b = true) deep
noncomputable instance (t : Ty) (b : Bool) (d : Int) : Decidable (TFb t b d) := Classical.propDecidable _
theorem TFb_iff (t : Ty) (b c : Bool) (deep : Int) (h : (b = true ∨ t.kind = 3 ∨ t.kind = 4) = (c = true)) : TFb t b deep ↔ TNd t (b = true) deep ∧ ∀ a ∈ t.args, TFb a c (deep + 1) := by
  unfold TFb
  rw [TFd_iff, h]
theorem mput43 (f : Value → Option Value) (u v : Value) : mput (mput f (.int .i64 4) v) (.int .i64 3) u = mput (mput f (.int .i64 3) u) (.int .i64 4) v := mput_comm f v u (by simp)
theorem mput53 (f : Value → Option Value) (u v : Value) : mput (mput f (.int .i64 5) v) (.int .i64 3) u = mput (mput f (.int .i64 3) u) (.int .i64 5) v := mput_comm f v u (by simp)
theorem mput54 (f : Value → Option Value) (u v : Value) : mput (mput f (.int .i64 5) v) (.int .i64 4) u = mput (mput f (.int .i64 4) u) (.int .i64 5) v := mput_comm f v u (by simp)
end Go.VC
namespace Go.VC.T
open Go Go.VC Go.Proofs Go.VC.F
def fc109A67 := (ai (ai (ai (ai (ai sz3 ag3) (ai zv3 un3)) (ai (ai sz4 ag4) (ai zv4 (ai un4 sz25)))) (ai (ai (ai ag25 zv25) (ai sb25 (ai un25 el25))) (ai (ai ap25 sz41) (ai ag41 (ai zv41 sb41))))) (ai (ai (ai (ai un41 el41) (ai ap41 (ai sz43 ag43))) (ai (ai zv43 fl43_0) (ai fl43_1 (ai fl43_2 pl43)))) (ai (ai (ai sz127 ag127) (ai zv127 (ai un127 sz138))) (ai (ai ag138 zv138) (ai mp138 (ai okf109 okf125))))))
theorem typeForm_loop (v : Ty) (h : okTy (2^20) v) (rest : List IV) (b : Bool) (deep : Int) (hd : 0 ≤ deep ∧ deep ≤ 8) (H : ∀ a ∈ v.args, ∀ (rest : List IV) (b : Bool) (d : Int) (hd : 0 ≤ d ∧ d ≤ 8), FnP Tryz.prog 109 [.c (.im (.pt (eTy a ++ rest))), bT b, iT d] (bT (decide (TFb a b d)))) : FnS Tryz.prog 109 [] [.c (.im (.pt (eTy v ++ rest))), bT b, iT deep] [] (bT (decide (TFb v b deep))) := by
  refine FnS.go [0, 1, 2, 6, 7, 8, 9, 22, 48, 102, 103, 104, 116] [] Tryz.func109 rfl (fun kt kz => ?_)
  have fcx := fc109A67
  simp only [Tryz.f109]
  have ho := okTy_iff.1 h
  have hln := ho.2.2.1
  have hls := ho.2.1
  have hm := tMany_map v
  have hno : ¬ TNd v (b = true) deep → decide (TFb v b deep) = false := fun h => decide_eq_false fun h' => h ((TFd_iff v _ deep).1 h').1
  refine Run ((eTy_eta v)) ?_; with_reducible repeat' (first | exact True.intro | refine Lf.mk ?_ ?_ | intro hb)
  refine Sm.drawG [3, 4, 5, 6, 7, 10, 11, 12, 13] 12 [(0, [], [3, 4, 5, 6, 7, 10, 11, 12, 13]), (1, [0], [3, 4, 5, 6, 7, 10, 11, 12, 13]), (2, [0], [3, 4, 5, 6, 7, 10, 11, 12, 13]), (8, [0], [10, 11, 12, 13]), (9, [1, 2, 8], [10, 11, 12, 13]), (14, [9], []), (15, [14], [])] mixed (by decide +kernel) (by decide) (by (simp only [List.filterMap_cons, List.filterMap_nil, List.getElem?_toArray, List.getElem?_cons_succ, List.getElem?_cons_zero]); exact rfl) ?_ ?_ ?_
  rotate_left
  · have fx := (eTy_eta v)
    simp -dsimp (maxSteps := 2000000) (disch := omega) only [vs, ↓Option.bind_some, ev1, ofV, scalarB, Kn, Kb, calleeOf, evLoad, ptr, evField, evFieldAddr, shift, ↓pt_at, ↓pt_at1, evExtract, evBin, evLen, evConv, cellsT, noS, Cell.has, Cell.hasN, Cell.anyN, toIV, toIV0, toIVs, ownC, srcM, Ob.own, Ob.esz, allSc, nilK, lenC, ownCell, isPtr, ptrNil, frzO, Cell.frz, Cell.keys, ↓reduceIte, reduceCtorEq, Nat.reduceEqDiff, Nat.reduceBEq, Nat.reduceBNe, Nat.reduceAdd, Nat.reduceMul, Nat.reduceSub, Nat.reduceLT, Nat.reduceLeDiff, Nat.reducePow, Int.reduceLT, Int.reduceLE, Int.reduceEq, Int.reduceNe, quietB, Nat.reduceMod, Int.reduceToNat, ne_eq, eq_self, exists_const, evBytes, byRow, byL, byStr_size, ifsz, ByteArray.size_append, Option.none_or, Option.some_or, evLook, keyD, qX_nil, qX_cons, apQ, opsM_nil, opsM_cons, solI_nil, solI_cons, solE, Option.isSome_some, true_or, or_true, true_and, allSc_eS, allSc_eI, flat_len', Nat.mul_one, Nat.zero_add, List.nil_append, List.append_nil, fcx, fx]
    repeat' (first
      | (with_reducible refine goAN)
      | (with_reducible exact goWt (by with_unfolding_all exact rfl))
      | ((with_reducible refine goOne (by simp only [List.getElem?_toArray, List.getElem?_cons_succ, List.getElem?_cons_zero]; exact rfl) (by simp only [List.filter_cons, List.filter_nil, Nat.reduceBNe, ↓reduceIte, Bool.false_eq_true]; exact rfl) ?_); simp -dsimp (maxSteps := 2000000) (disch := omega) only [vs, ↓Option.bind_some, ev1, ofV, scalarB, Kn, Kb, calleeOf, evLoad, ptr, evField, evFieldAddr, shift, ↓pt_at, ↓pt_at1, evExtract, evBin, evLen, evConv, cellsT, noS, Cell.has, Cell.hasN, Cell.anyN, toIV, toIV0, toIVs, ownC, srcM, Ob.own, Ob.esz, allSc, nilK, lenC, ownCell, isPtr, ptrNil, frzO, Cell.frz, Cell.keys, ↓reduceIte, reduceCtorEq, Nat.reduceEqDiff, Nat.reduceBEq, Nat.reduceBNe, Nat.reduceAdd, Nat.reduceMul, Nat.reduceSub, Nat.reduceLT, Nat.reduceLeDiff, Nat.reducePow, Int.reduceLT, Int.reduceLE, Int.reduceEq, Int.reduceNe, quietB, Nat.reduceMod, Int.reduceToNat, ne_eq, eq_self, exists_const, evBytes, byRow, byL, byStr_size, ifsz, ByteArray.size_append, Option.none_or, Option.some_or, evLook, keyD, qX_nil, qX_cons, apQ, opsM_nil, opsM_cons, solI_nil, solI_cons, solE, Option.isSome_some, true_or, or_true, true_and, allSc_eS, allSc_eI, flat_len', Nat.mul_one, Nat.zero_add, List.nil_append, List.append_nil, fcx, fx])
      | (with_reducible refine goAC ?_ ?_)
      | (with_reducible refine goOG ?_)
      | (with_reducible refine goOZ ?_))
    all_goals (simp only [mput43, mput53, mput54, mget_putI, mget_no, hm]; try exact rfl)
  simp only [Kn, Kb, ↓reduceIte, Nat.reduceEqDiff]
  with_reducible refine Cont.keepK kt ?_
  simp only [keepE, memN, delN, ↓reduceIte, Nat.reduceEqDiff, Bool.false_eq_true]
  by_cases c1 : v.kind < 1
  · have e := hno fun h => by have := h.1; omega
    have g1 := eq_true c1
    refine Run ((ai (eTy_eta v) (ai @g1 @e))) ?_; with_reducible repeat' (first | exact True.intro | refine Lf.mk ?_ ?_ | intro hb)
  · have g1 := eq_false c1
    by_cases c2 : 5 < v.kind
    · have e := hno fun h => by have := h.2.1; omega
      have g2 := eq_true c2
      refine Run ((ai (ai (eTy_eta v) @g1) (ai @g2 @e))) ?_; with_reducible repeat' (first | exact True.intro | refine Lf.mk ?_ ?_ | intro hb)
    · have g2 := eq_false c2
      by_cases c3 : 7 < deep
      · have e := hno fun h => by have := h.2.2.1; omega
        have g3 := eq_true c3
        refine Run ((ai (ai (eTy_eta v) @g1) (ai @g2 (ai @g3 @e)))) ?_; with_reducible repeat' (first | exact True.intro | refine Lf.mk ?_ ?_ | intro hb)
      · have g3 := eq_false c3
        by_cases c4 : (v.args.length : Int) = (tMany v : Int)
        · have g4 := eq_true c4
          have c4' : v.args.length = tMany v := by omega
          cases b with
          | true =>
            by_cases k3 : v.kind = 3
            · have gk5 : (v.kind = 5) = False := eq_false (by omega)
              have gk3 := eq_true k3
              refine Run ((ai (ai (eTy_eta v) (ai @g1 @g2)) (ai (ai @g3 @g4) (ai @gk5 @gk3)))) ?_; with_reducible repeat' (first | exact True.intro | refine Lf.mk ?_ ?_ | intro hb)
              refine Cal ((eTy_eta v)) (implLabs_ok v.labels hls) ?_
              by_cases hl : LabsOk v.labels
              · have gl := eq_true hl
                have hT : TNd v (true = true) deep := ⟨by omega, by omega, by omega, c4', fun h => by omega, fun _ => hl, fun h => absurd k3 h⟩
                refine Run ((ai (eTy_eta v) (ai @gk3 @gl))) ?_; with_reducible repeat' (first | exact True.intro | refine Lf.mk ?_ ?_ | intro hb)
                have hP : (true = true ∨ v.kind = 3 ∨ v.kind = 4) = (true = true) := by simp [k3]
                have hiff := TFb_iff v true _ deep hP
                refine Trn (α := Nat) [6, 9, 103, 104, 105, 106, 107, 108, 109, 110, 111, 112, 113, 114, 115, 116, 117] (fun i => [(103, iT i)]) (fun i => []) (fun i => i ≤ v.args.length ∧ ∀ a ∈ v.args.take i, TFb a true (deep + 1)) (fun i => v.args.length - i) (0) (⟨Nat.zero_le _, fun s hs => by simp at hs⟩) ((eTy_eta v)) ?_; intro lx hI; obtain i := lx; (try simp only [List.nil_append, List.cons_append] at hI ⊢)
                by_cases hlt : lx < v.args.length
                · refine Run ((ai (eTy_eta v) @hlt)) ?_; with_reducible repeat' (first | exact True.intro | refine Lf.mk ?_ ?_ | intro hb)
                  refine Cal ((eTy_eta v)) (H _ (List.getElem_mem hlt) _ true (deep + 1) ⟨by omega, by omega⟩) ?_
                  by_cases hf : TFb v.args[lx] true (deep + 1)
                  · have gf := eq_true hf
                    refine Run (@gf) ?_; with_reducible repeat' (first | exact True.intro | refine Lf.mk ?_ ?_ | intro hb)
                    exact Nxt ((eTy_eta v)) (lx + 1) (⟨by omega, ball_take hlt hI.2 hf⟩) (by first | omega | (simp; omega))
                  · have gf := eq_false hf
                    have e : decide (TFb v true deep) = false := decide_eq_false fun h => hf ((hiff.1 h).2 _ (List.getElem_mem hlt))
                    refine Run ((ai @gf @e)) ?_; with_reducible repeat' (first | exact True.intro | refine Lf.mk ?_ ?_ | intro hb)
                · have e : decide (TFb v true deep) = true := decide_eq_true (hiff.2 ⟨hT, ball_end (by omega) hI.2⟩)
                  refine Run ((ai @hlt @e)) ?_; with_reducible repeat' (first | exact True.intro | refine Lf.mk ?_ ?_ | intro hb)
              · have gl := eq_false hl
                have e := hno fun h => hl (h.2.2.2.2.2.1 k3)
                refine Run ((ai (ai (eTy_eta v) @gk5) (ai @gk3 (ai @gl @e)))) ?_; with_reducible repeat' (first | exact True.intro | refine Lf.mk ?_ ?_ | intro hb)
            · have gk3 := eq_false k3
              by_cases hl : 0 < (v.labels.length : Int)
              · have gl := eq_true hl
                have e := hno fun h => by have := h.2.2.2.2.2.2 k3; omega
                by_cases k5 : v.kind = 5
                · have gk5 := eq_true k5
                  refine Run ((ai (ai (ai (eTy_eta v) @g1) (ai @g2 @g3)) (ai (ai @g4 @gk5) (ai @gk3 (ai @gl @e))))) ?_; with_reducible repeat' (first | exact True.intro | refine Lf.mk ?_ ?_ | intro hb)
                · have gk5 := eq_false k5
                  refine Run ((ai (ai (ai (eTy_eta v) @g1) (ai @g2 @g3)) (ai (ai @g4 @gk5) (ai @gk3 (ai @gl @e))))) ?_; with_reducible repeat' (first | exact True.intro | refine Lf.mk ?_ ?_ | intro hb)
              · have gl := eq_false hl
                by_cases k5 : v.kind = 5
                · have gk5 := eq_true k5
                  have e := hno fun h => h.2.2.2.2.1 ⟨k5, rfl⟩
                  refine Run ((ai (ai (ai (eTy_eta v) @g1) (ai @g2 @g3)) (ai (ai @g4 @gk5) (ai @gk3 (ai @gl @e))))) ?_; with_reducible repeat' (first | exact True.intro | refine Lf.mk ?_ ?_ | intro hb)
                · have gk5 := eq_false k5
                  have hT : TNd v (true = true) deep := ⟨by omega, by omega, by omega, c4', fun h => k5 h.1, fun h => absurd h k3, fun _ => by omega⟩
                  by_cases k4 : v.kind = 4
                  · have gk4 := eq_true k4
                    refine Run ((ai (ai (ai (eTy_eta v) @g1) (ai @g2 @g3)) (ai (ai @g4 @gk5) (ai @gk4 (ai @gk3 @gl))))) ?_; with_reducible repeat' (first | exact True.intro | refine Lf.mk ?_ ?_ | intro hb)
                    have hP : (true = true ∨ v.kind = 3 ∨ v.kind = 4) = (true = true) := by simp [k4]
                    have hiff := TFb_iff v true _ deep hP
                    refine Trn (α := Nat) [6, 9, 103, 104, 105, 106, 107, 108, 109, 110, 111, 112, 113, 114, 115, 116, 117] (fun i => [(103, iT i)]) (fun i => []) (fun i => i ≤ v.args.length ∧ ∀ a ∈ v.args.take i, TFb a true (deep + 1)) (fun i => v.args.length - i) (0) (⟨Nat.zero_le _, fun s hs => by simp at hs⟩) ((eTy_eta v)) ?_; intro lx hI; obtain i := lx; (try simp only [List.nil_append, List.cons_append] at hI ⊢)
                    by_cases hlt : lx < v.args.length
                    · refine Run ((ai (eTy_eta v) @hlt)) ?_; with_reducible repeat' (first | exact True.intro | refine Lf.mk ?_ ?_ | intro hb)
                      refine Cal ((eTy_eta v)) (H _ (List.getElem_mem hlt) _ true (deep + 1) ⟨by omega, by omega⟩) ?_
                      by_cases hf : TFb v.args[lx] true (deep + 1)
                      · have gf := eq_true hf
                        refine Run (@gf) ?_; with_reducible repeat' (first | exact True.intro | refine Lf.mk ?_ ?_ | intro hb)
                        exact Nxt ((eTy_eta v)) (lx + 1) (⟨by omega, ball_take hlt hI.2 hf⟩) (by first | omega | (simp; omega))
                      · have gf := eq_false hf
                        have e : decide (TFb v true deep) = false := decide_eq_false fun h => hf ((hiff.1 h).2 _ (List.getElem_mem hlt))
                        refine Run ((ai @gf @e)) ?_; with_reducible repeat' (first | exact True.intro | refine Lf.mk ?_ ?_ | intro hb)
                    · have e : decide (TFb v true deep) = true := decide_eq_true (hiff.2 ⟨hT, ball_end (by omega) hI.2⟩)
                      refine Run ((ai @hlt @e)) ?_; with_reducible repeat' (first | exact True.intro | refine Lf.mk ?_ ?_ | intro hb)
                  · have gk4 := eq_false k4
                    refine Run ((ai (ai (ai (eTy_eta v) @g1) (ai @g2 @g3)) (ai (ai @g4 @gk5) (ai @gk4 (ai @gk3 @gl))))) ?_; with_reducible repeat' (first | exact True.intro | refine Lf.mk ?_ ?_ | intro hb)
                    have hP : (true = true ∨ v.kind = 3 ∨ v.kind = 4) = (true = true) := by simp [k3, k4]
                    have hiff := TFb_iff v true _ deep hP
                    refine Trn (α := Nat) [6, 9, 103, 104, 105, 106, 107, 108, 109, 110, 111, 112, 113, 114, 115, 116, 117] (fun i => [(103, iT i)]) (fun i => []) (fun i => i ≤ v.args.length ∧ ∀ a ∈ v.args.take i, TFb a true (deep + 1)) (fun i => v.args.length - i) (0) (⟨Nat.zero_le _, fun s hs => by simp at hs⟩) ((eTy_eta v)) ?_; intro lx hI; obtain i := lx; (try simp only [List.nil_append, List.cons_append] at hI ⊢)
                    by_cases hlt : lx < v.args.length
                    · refine Run ((ai (eTy_eta v) @hlt)) ?_; with_reducible repeat' (first | exact True.intro | refine Lf.mk ?_ ?_ | intro hb)
                      refine Cal ((eTy_eta v)) (H _ (List.getElem_mem hlt) _ true (deep + 1) ⟨by omega, by omega⟩) ?_
                      by_cases hf : TFb v.args[lx] true (deep + 1)
                      · have gf := eq_true hf
                        refine Run (@gf) ?_; with_reducible repeat' (first | exact True.intro | refine Lf.mk ?_ ?_ | intro hb)
                        exact Nxt ((eTy_eta v)) (lx + 1) (⟨by omega, ball_take hlt hI.2 hf⟩) (by first | omega | (simp; omega))
                      · have gf := eq_false hf
                        have e : decide (TFb v true deep) = false := decide_eq_false fun h => hf ((hiff.1 h).2 _ (List.getElem_mem hlt))
                        refine Run ((ai @gf @e)) ?_; with_reducible repeat' (first | exact True.intro | refine Lf.mk ?_ ?_ | intro hb)
                    · have e : decide (TFb v true deep) = true := decide_eq_true (hiff.2 ⟨hT, ball_end (by omega) hI.2⟩)
                      refine Run ((ai @hlt @e)) ?_; with_reducible repeat' (first | exact True.intro | refine Lf.mk ?_ ?_ | intro hb)
          | false =>
            by_cases k3 : v.kind = 3
            · have gk5 : (v.kind = 5) = False := eq_false (by omega)
              have gk3 := eq_true k3
              refine Run ((ai (ai (eTy_eta v) (ai @g1 @g2)) (ai (ai @g3 @g4) (ai @gk5 @gk3)))) ?_; with_reducible repeat' (first | exact True.intro | refine Lf.mk ?_ ?_ | intro hb)
              refine Cal ((eTy_eta v)) (implLabs_ok v.labels hls) ?_
              by_cases hl : LabsOk v.labels
              · have gl := eq_true hl
                have hT : TNd v (false = true) deep := ⟨by omega, by omega, by omega, c4', fun h => by omega, fun _ => hl, fun h => absurd k3 h⟩
                refine Run ((ai (eTy_eta v) (ai @gk3 @gl))) ?_; with_reducible repeat' (first | exact True.intro | refine Lf.mk ?_ ?_ | intro hb)
                have hP : (false = true ∨ v.kind = 3 ∨ v.kind = 4) = (true = true) := by simp [k3]
                have hiff := TFb_iff v false _ deep hP
                refine Trn (α := Nat) [6, 9, 103, 104, 105, 106, 107, 108, 109, 110, 111, 112, 113, 114, 115, 116, 117] (fun i => [(103, iT i)]) (fun i => []) (fun i => i ≤ v.args.length ∧ ∀ a ∈ v.args.take i, TFb a true (deep + 1)) (fun i => v.args.length - i) (0) (⟨Nat.zero_le _, fun s hs => by simp at hs⟩) ((eTy_eta v)) ?_; intro lx hI; obtain i := lx; (try simp only [List.nil_append, List.cons_append] at hI ⊢)
                by_cases hlt : lx < v.args.length
                · refine Run ((ai (eTy_eta v) @hlt)) ?_; with_reducible repeat' (first | exact True.intro | refine Lf.mk ?_ ?_ | intro hb)
                  refine Cal ((eTy_eta v)) (H _ (List.getElem_mem hlt) _ true (deep + 1) ⟨by omega, by omega⟩) ?_
                  by_cases hf : TFb v.args[lx] true (deep + 1)
                  · have gf := eq_true hf
                    refine Run (@gf) ?_; with_reducible repeat' (first | exact True.intro | refine Lf.mk ?_ ?_ | intro hb)
                    exact Nxt ((eTy_eta v)) (lx + 1) (⟨by omega, ball_take hlt hI.2 hf⟩) (by first | omega | (simp; omega))
                  · have gf := eq_false hf
                    have e : decide (TFb v false deep) = false := decide_eq_false fun h => hf ((hiff.1 h).2 _ (List.getElem_mem hlt))
                    refine Run ((ai @gf @e)) ?_; with_reducible repeat' (first | exact True.intro | refine Lf.mk ?_ ?_ | intro hb)
                · have e : decide (TFb v false deep) = true := decide_eq_true (hiff.2 ⟨hT, ball_end (by omega) hI.2⟩)
                  refine Run ((ai @hlt @e)) ?_; with_reducible repeat' (first | exact True.intro | refine Lf.mk ?_ ?_ | intro hb)
              · have gl := eq_false hl
                have e := hno fun h => hl (h.2.2.2.2.2.1 k3)
                refine Run ((ai (ai (eTy_eta v) @gk5) (ai @gk3 (ai @gl @e)))) ?_; with_reducible repeat' (first | exact True.intro | refine Lf.mk ?_ ?_ | intro hb)
            · have gk3 := eq_false k3
              by_cases hl : 0 < (v.labels.length : Int)
              · have gl := eq_true hl
                have e := hno fun h => by have := h.2.2.2.2.2.2 k3; omega
                by_cases k5 : v.kind = 5
                · have gk5 := eq_true k5
                  refine Run ((ai (ai (ai (eTy_eta v) @g1) (ai @g2 @g3)) (ai (ai @g4 @gk5) (ai @gk3 (ai @gl @e))))) ?_; with_reducible repeat' (first | exact True.intro | refine Lf.mk ?_ ?_ | intro hb)
                · have gk5 := eq_false k5
                  refine Run ((ai (ai (ai (eTy_eta v) @g1) (ai @g2 @g3)) (ai (ai @g4 @gk5) (ai @gk3 (ai @gl @e))))) ?_; with_reducible repeat' (first | exact True.intro | refine Lf.mk ?_ ?_ | intro hb)
              · have gl := eq_false hl
                by_cases k5 : v.kind = 5
                · have gk5 := eq_true k5
                  have gk4 : (v.kind = 4) = False := eq_false (by omega)
                  have hT : TNd v (false = true) deep := ⟨by omega, by omega, by omega, c4', fun h => by simp at h, fun h => by omega, fun _ => by omega⟩
                  refine Run ((ai (ai (ai (eTy_eta v) @g1) (ai @g2 @g3)) (ai (ai @g4 @gk5) (ai @gk4 (ai @gk3 @gl))))) ?_; with_reducible repeat' (first | exact True.intro | refine Lf.mk ?_ ?_ | intro hb)
                  have hP : (false = true ∨ v.kind = 3 ∨ v.kind = 4) = (false = true) := by simp [k3, k5]
                  have hiff := TFb_iff v false _ deep hP
                  refine Trn (α := Nat) [6, 9, 103, 104, 105, 106, 107, 108, 109, 110, 111, 112, 113, 114, 115, 116, 117] (fun i => [(103, iT i)]) (fun i => []) (fun i => i ≤ v.args.length ∧ ∀ a ∈ v.args.take i, TFb a false (deep + 1)) (fun i => v.args.length - i) (0) (⟨Nat.zero_le _, fun s hs => by simp at hs⟩) ((eTy_eta v)) ?_; intro lx hI; obtain i := lx; (try simp only [List.nil_append, List.cons_append] at hI ⊢)
                  by_cases hlt : lx < v.args.length
                  · refine Run ((ai (eTy_eta v) @hlt)) ?_; with_reducible repeat' (first | exact True.intro | refine Lf.mk ?_ ?_ | intro hb)
                    refine Cal ((eTy_eta v)) (H _ (List.getElem_mem hlt) _ false (deep + 1) ⟨by omega, by omega⟩) ?_
                    by_cases hf : TFb v.args[lx] false (deep + 1)
                    · have gf := eq_true hf
                      refine Run (@gf) ?_; with_reducible repeat' (first | exact True.intro | refine Lf.mk ?_ ?_ | intro hb)
                      exact Nxt ((eTy_eta v)) (lx + 1) (⟨by omega, ball_take hlt hI.2 hf⟩) (by first | omega | (simp; omega))
                    · have gf := eq_false hf
                      have e : decide (TFb v false deep) = false := decide_eq_false fun h => hf ((hiff.1 h).2 _ (List.getElem_mem hlt))
                      refine Run ((ai @gf @e)) ?_; with_reducible repeat' (first | exact True.intro | refine Lf.mk ?_ ?_ | intro hb)
                  · have e : decide (TFb v false deep) = true := decide_eq_true (hiff.2 ⟨hT, ball_end (by omega) hI.2⟩)
                    refine Run ((ai @hlt @e)) ?_; with_reducible repeat' (first | exact True.intro | refine Lf.mk ?_ ?_ | intro hb)
                · have gk5 := eq_false k5
                  have hT : TNd v (false = true) deep := ⟨by omega, by omega, by omega, c4', fun h => k5 h.1, fun h => absurd h k3, fun _ => by omega⟩
                  by_cases k4 : v.kind = 4
                  · have gk4 := eq_true k4
                    refine Run ((ai (ai (ai (eTy_eta v) @g1) (ai @g2 @g3)) (ai (ai @g4 @gk5) (ai @gk4 (ai @gk3 @gl))))) ?_; with_reducible repeat' (first | exact True.intro | refine Lf.mk ?_ ?_ | intro hb)
                    have hP : (false = true ∨ v.kind = 3 ∨ v.kind = 4) = (true = true) := by simp [k4]
                    have hiff := TFb_iff v false _ deep hP
                    refine Trn (α := Nat) [6, 9, 103, 104, 105, 106, 107, 108, 109, 110, 111, 112, 113, 114, 115, 116, 117] (fun i => [(103, iT i)]) (fun i => []) (fun i => i ≤ v.args.length ∧ ∀ a ∈ v.args.take i, TFb a true (deep + 1)) (fun i => v.args.length - i) (0) (⟨Nat.zero_le _, fun s hs => by simp at hs⟩) ((eTy_eta v)) ?_; intro lx hI; obtain i := lx; (try simp only [List.nil_append, List.cons_append] at hI ⊢)
                    by_cases hlt : lx < v.args.length
                    · refine Run ((ai (eTy_eta v) @hlt)) ?_; with_reducible repeat' (first | exact True.intro | refine Lf.mk ?_ ?_ | intro hb)
                      refine Cal ((eTy_eta v)) (H _ (List.getElem_mem hlt) _ true (deep + 1) ⟨by omega, by omega⟩) ?_
                      by_cases hf : TFb v.args[lx] true (deep + 1)
                      · have gf := eq_true hf
                        refine Run (@gf) ?_; with_reducible repeat' (first | exact True.intro | refine Lf.mk ?_ ?_ | intro hb)
                        exact Nxt ((eTy_eta v)) (lx + 1) (⟨by omega, ball_take hlt hI.2 hf⟩) (by first | omega | (simp; omega))
                      · have gf := eq_false hf
                        have e : decide (TFb v false deep) = false := decide_eq_false fun h => hf ((hiff.1 h).2 _ (List.getElem_mem hlt))
                        refine Run ((ai @gf @e)) ?_; with_reducible repeat' (first | exact True.intro | refine Lf.mk ?_ ?_ | intro hb)
                    · have e : decide (TFb v false deep) = true := decide_eq_true (hiff.2 ⟨hT, ball_end (by omega) hI.2⟩)
                      refine Run ((ai @hlt @e)) ?_; with_reducible repeat' (first | exact True.intro | refine Lf.mk ?_ ?_ | intro hb)
                  · have gk4 := eq_false k4
                    refine Run ((ai (ai (ai (eTy_eta v) @g1) (ai @g2 @g3)) (ai (ai @g4 @gk5) (ai @gk4 (ai @gk3 @gl))))) ?_; with_reducible repeat' (first | exact True.intro | refine Lf.mk ?_ ?_ | intro hb)
                    have hP : (false = true ∨ v.kind = 3 ∨ v.kind = 4) = (false = true) := by simp [k3, k4]
                    have hiff := TFb_iff v false _ deep hP
                    refine Trn (α := Nat) [6, 9, 103, 104, 105, 106, 107, 108, 109, 110, 111, 112, 113, 114, 115, 116, 117] (fun i => [(103, iT i)]) (fun i => []) (fun i => i ≤ v.args.length ∧ ∀ a ∈ v.args.take i, TFb a false (deep + 1)) (fun i => v.args.length - i) (0) (⟨Nat.zero_le _, fun s hs => by simp at hs⟩) ((eTy_eta v)) ?_; intro lx hI; obtain i := lx; (try simp only [List.nil_append, List.cons_append] at hI ⊢)
                    by_cases hlt : lx < v.args.length
                    · refine Run ((ai (eTy_eta v) @hlt)) ?_; with_reducible repeat' (first | exact True.intro | refine Lf.mk ?_ ?_ | intro hb)
                      refine Cal ((eTy_eta v)) (H _ (List.getElem_mem hlt) _ false (deep + 1) ⟨by omega, by omega⟩) ?_
                      by_cases hf : TFb v.args[lx] false (deep + 1)
                      · have gf := eq_true hf
                        refine Run (@gf) ?_; with_reducible repeat' (first | exact True.intro | refine Lf.mk ?_ ?_ | intro hb)
                        exact Nxt ((eTy_eta v)) (lx + 1) (⟨by omega, ball_take hlt hI.2 hf⟩) (by first | omega | (simp; omega))
                      · have gf := eq_false hf
                        have e : decide (TFb v false deep) = false := decide_eq_false fun h => hf ((hiff.1 h).2 _ (List.getElem_mem hlt))
                        refine Run ((ai @gf @e)) ?_; with_reducible repeat' (first | exact True.intro | refine Lf.mk ?_ ?_ | intro hb)
                    · have e : decide (TFb v false deep) = true := decide_eq_true (hiff.2 ⟨hT, ball_end (by omega) hI.2⟩)
                      refine Run ((ai @hlt @e)) ?_; with_reducible repeat' (first | exact True.intro | refine Lf.mk ?_ ?_ | intro hb)
        · have g4 := eq_false c4
          have e := hno fun h => by have := h.2.2.2.1; omega
          refine Run ((ai (ai (eTy_eta v) (ai @g1 @g2)) (ai @g3 (ai @g4 @e)))) ?_; with_reducible repeat' (first | exact True.intro | refine Lf.mk ?_ ?_ | intro hb)

theorem typeForm_ok (v : Ty) (h : okTy (2^20) v) (rest : List IV) (b : Bool) (deep : Int) (hd : 0 ≤ deep ∧ deep ≤ 8) : FnP Tryz.prog 109 [.c (.im (.pt (eTy v ++ rest))), bT b, iT deep] (bT (decide (TFb v b deep))) :=
  typeForm_loop v h rest b deep hd fun u hu rest b d hd => typeForm_ok u ((okTy_iff.1 h).2.2.2 u hu) rest b d hd
termination_by SizeOf.sizeOf v
decreasing_by exact Ty.mem hu
def fc95A67 := (ai (ai (ai (ai sz3 ag3) (ai zv3 (ai un3 sz4))) (ai (ai ag4 (ai zv4 un4)) (ai sz43 (ai ag43 zv43)))) (ai (ai (ai fl43_0 (ai fl43_1 fl43_2)) (ai pl43 (ai sz127 ag127))) (ai (ai zv127 (ai un127 okf109)) (ai okf110 (ai sz25 sz41)))))
theorem implTyOk_ok (v : Ty) (h : okTy (2^20) v) (hz : zTy v ≤ 2^40) : FnS Tryz.prog 95 [] [agT (eTy v)] [] (bT (decide (TyOk v))) := by
  refine FnS.go [0, 1, 2] [] Tryz.func95 rfl (fun kt kz => ?_)
  have fcx := fc95A67
  simp only [Tryz.f95]
  have hf := typeForm_ok v h [] false 1 ⟨by omega, by omega⟩
  rw [List.append_nil] at hf
  have h1 := TFd_one v
  rw [show TFd v False 1 = TFb v false 1 by unfold TFb; simp] at h1
  refine Run ((eTy_eta v)) ?_; with_reducible repeat' (first | exact True.intro | refine Lf.mk ?_ ?_ | intro hb)
  refine Cal ((eTy_eta v)) (hf) ?_
  by_cases ht : TFb v false 1
  · have gt := eq_true ht
    have e : decide ((tsz v : Int) ≤ 24) = decide (TyOk v) := decide_eq_decide.2 ⟨fun h => ⟨by omega, (h1.1 ht).2, (h1.1 ht).1⟩, fun h => by have := h.1; omega⟩
    refine Run ((ai (eTy_eta v) @gt)) ?_; with_reducible repeat' (first | exact True.intro | refine Lf.mk ?_ ?_ | intro hb)
    refine Cal ((eTy_eta v)) (sizeTy_ok v h hz) ?_
    refine Run ((ai (eTy_eta v) @e)) ?_; with_reducible repeat' (first | exact True.intro | refine Lf.mk ?_ ?_ | intro hb)
  · have gt := eq_false ht
    have e : decide (TyOk v) = false := decide_eq_false fun h => ht (h1.2 ⟨h.2.2, h.2.1⟩)
    refine Run ((ai (eTy_eta v) (ai @gt @e))) ?_; with_reducible repeat' (first | exact True.intro | refine Lf.mk ?_ ?_ | intro hb)
def fc98A67 := (ai (ai (ai (ai sz3 ag3) (ai zv3 un3)) (ai (ai sz4 ag4) (ai zv4 un4))) (ai (ai (ai sz43 ag43) (ai zv43 fl43_0)) (ai (ai fl43_1 fl43_2) (ai pl43 (ai sz25 sz41)))))
theorem implPlain_ok (v : Ty) : FnS Tryz.prog 98 [] [agT (eTy v)] [] (bT (decide (plainK v))) := by
  refine FnS.go [0, 1, 2] [] Tryz.func98 rfl (fun kt kz => ?_)
  have fcx := fc98A67
  simp only [Tryz.f98]
  by_cases k1 : v.kind = 1
  · have e : decide (plainK v) = true := decide_eq_true (.inl k1)
    refine Run ((ai @eTy_eta (ai @k1 @e))) ?_; with_reducible repeat' (first | exact True.intro | refine Lf.mk ?_ ?_ | intro hb)
  · have e : decide (v.kind = 2) = decide (plainK v) := decide_eq_decide.2 ⟨fun h => .inr h, fun h => h.resolve_left k1⟩
    have g1 := eq_false k1
    refine Run ((ai @eTy_eta (ai @g1 @e))) ?_; with_reducible repeat' (first | exact True.intro | refine Lf.mk ?_ ?_ | intro hb)
def fc97A67 := (ai (ai (ai sz4 (ai ag4 zv4)) (ai (ai un4 sz43) (ai ag43 zv43))) (ai (ai (ai fl43_0 fl43_1) (ai fl43_2 pl43)) (ai (ai okf98 sz3) (ai sz25 sz41))))
theorem implRow1_ok (v : Ty) : FnS Tryz.prog 97 [] [agT (eTy v)] [] (bT (!decide (plainK v))) := by
  refine FnS.go [0, 1, 2] [] Tryz.func97 rfl (fun kt kz => ?_)
  have fcx := fc97A67
  simp only [Tryz.f97]
  refine Run (@eTy_eta) ?_; with_reducible repeat' (first | exact True.intro | refine Lf.mk ?_ ?_ | intro hb)
  refine Cal (@eTy_eta) (implPlain_ok v) ?_
  refine Run (@eTy_eta) ?_; with_reducible repeat' (first | exact True.intro | refine Lf.mk ?_ ?_ | intro hb)
def fc111A67 := (ai (ai (ai (ai sz3 (ai ag3 zv3)) (ai un3 (ai sz4 ag4))) (ai (ai zv4 (ai un4 sz41)) (ai (ai ag41 zv41) (ai sb41 un41)))) (ai (ai (ai el41 (ai ap41 sz43)) (ai ag43 (ai zv43 fl43_0))) (ai (ai fl43_1 (ai fl43_2 pl43)) (ai (ai sz98 ag98) (ai zv98 sz25)))))
theorem slIdxTy_ok (g : Nat) (hg : fnOk Tryz.prog g = true) (p : Ty → Bool) (xs : List Ty) (hx : xs.length ≤ 2^48) (H : ∀ x ∈ xs, FnP Tryz.prog g [agT (eTy x)] (bT (p x))) : FnS Tryz.prog 111 [] [slT eTy xs, .c (.im (.fn g []))] [] (iT (idxI p xs)) := by
  refine FnS.go [0, 1, 4, 5, 7, 8, 9, 16] [] Tryz.func111 rfl (fun kt kz => ?_)
  have fcx := fc111A67
  simp only [Tryz.f111]
  refine Run (cast_succ) ?_; with_reducible repeat' (first | exact True.intro | refine Lf.mk ?_ ?_ | intro hb)
  refine Trn (α := Nat) [4, 5, 8, 9, 10, 11, 12, 13, 14, 15, 16, 17, 18] (fun i => [(8, iT i)]) (fun i => []) (fun i => i ≤ xs.length ∧ (xs.take i).any p = false) (fun i => xs.length - i) (0) (⟨Nat.zero_le _, rfl⟩) (cast_succ) ?_; intro lx hI; obtain i := lx; (try simp only [List.nil_append, List.cons_append] at hI ⊢)
  by_cases hlt : lx < xs.length
  · refine Run ((ai @hlt (ai @eTy_eta @hg))) ?_; with_reducible repeat' (first | exact True.intro | refine Lf.mk ?_ ?_ | intro hb)
    refine Cal (@eTy_eta) (H _ (List.getElem_mem hlt)) ?_
    refine Run (cast_succ) ?_; with_reducible repeat' (first | exact True.intro | refine Lf.mk ?_ ?_ | intro hb)
    · rw [idx_at hlt hI.2 hb]
    · exact Nxt (cast_succ) (lx + 1) (⟨by omega, any_take hlt hI.2 hb⟩) (by first | omega | (simp; omega))
  · have ha := any_all (by omega) hI.2
    refine Run (@hlt) ?_; with_reducible repeat' (first | exact True.intro | refine Lf.mk ?_ ?_ | intro hb)
    rw [idx_no ha]
def fc96A67 := (ai (ai (ai (ai sz3 ag3) (ai zv3 un3)) (ai (ai sz4 ag4) (ai zv4 (ai un4 sz41)))) (ai (ai (ai ag41 zv41) (ai sb41 (ai un41 el41))) (ai (ai ap41 sz98) (ai ag98 (ai zv98 okf111)))))
theorem slHasTy_ok (g : Nat) (hg : fnOk Tryz.prog g = true) (p : Ty → Bool) (xs : List Ty) (hx : xs.length ≤ 2^48) (H : ∀ x ∈ xs, FnP Tryz.prog g [agT (eTy x)] (bT (p x))) : FnS Tryz.prog 96 [] [slT eTy xs, .c (.im (.fn g []))] [] (bT (xs.any p)) := by
  refine FnS.go [0, 1, 4] [] Tryz.func96 rfl (fun kt kz => ?_)
  have fcx := fc96A67
  simp only [Tryz.f96]
  refine Run (cast_succ) ?_; with_reducible repeat' (first | exact True.intro | refine Lf.mk ?_ ?_ | intro hb)
  refine Cal (cast_succ) (slIdxTy_ok g hg p xs hx H) ?_
  refine Run ((idx_ge (p := p) (l := xs))) ?_; with_reducible repeat' (first | exact True.intro | refine Lf.mk ?_ ?_ | intro hb)
def fc73A67 := (ai (ai (ai (ai sz3 (ai ag3 zv3)) (ai (ai un3 sz4) (ai ag4 zv4))) (ai (ai un4 (ai sz41 ag41)) (ai (ai zv41 sb41) (ai un41 el41)))) (ai (ai (ai ap41 (ai sz43 ag43)) (ai (ai zv43 fl43_0) (ai fl43_1 fl43_2))) (ai (ai (ai pl43 sz98) (ai ag98 zv98)) (ai (ai okf95 okf96) (ai okf97 sz25)))))
theorem implRow_ok (v : Ty) (h : okTy (2^20) v) (hz : zTy v ≤ 2^40) : FnS Tryz.prog 73 [] [agT (eTy v)] [] (bT (decide (RowOk' v))) := by
  refine FnS.go [0, 1, 2] [] Tryz.func73 rfl (fun kt kz => ?_)
  have fcx := fc73A67
  simp only [Tryz.f73]
  have ho := okTy_iff.1 h
  have hln := ho.2.2.1
  have hg : fnOk Tryz.prog 97 = true := by decide +kernel
  refine Run (@eTy_eta) ?_; with_reducible repeat' (first | exact True.intro | refine Lf.mk ?_ ?_ | intro hb)
  refine Cal (@eTy_eta) (implTyOk_ok v h hz) ?_
  by_cases ht : TyOk v
  · have gt := eq_true ht
    by_cases k3 : v.kind = 3
    · have g3 := eq_true k3
      have e : (!v.args.any fun x => !decide (plainK x)) = decide (RowOk' v) := by
        rw [Bool.eq_iff_iff]
        simp only [Bool.not_eq_true', List.any_eq_false, Bool.not_eq_true', decide_eq_false_iff_not, Classical.not_not, decide_eq_true_eq, Bool.not_eq_false', RowOk', ht, k3, true_and]
      refine Run ((ai (ai @eTy_eta @gt) (ai @g3 @hg))) ?_; with_reducible repeat' (first | exact True.intro | refine Lf.mk ?_ ?_ | intro hb)
      refine Cal (@eTy_eta) (slHasTy_ok 97 hg (fun x => !decide (plainK x)) v.args (by omega) (fun x _ => implRow1_ok x)) ?_
      refine Run ((ai @eTy_eta @e)) ?_; with_reducible repeat' (first | exact True.intro | refine Lf.mk ?_ ?_ | intro hb)
    · have g3 := eq_false k3
      have e : decide (RowOk' v) = false := decide_eq_false fun h => k3 h.2.1
      refine Run ((ai (ai @eTy_eta @gt) (ai @g3 @e))) ?_; with_reducible repeat' (first | exact True.intro | refine Lf.mk ?_ ?_ | intro hb)
  · have gt := eq_false ht
    have e : decide (RowOk' v) = false := decide_eq_false fun h => ht h.1
    refine Run ((ai @eTy_eta (ai @gt @e))) ?_; with_reducible repeat' (first | exact True.intro | refine Lf.mk ?_ ?_ | intro hb)

end Go.VC.T
/- Data (Type): how they are measured, copied and compared. -/
namespace Go.VC.T
open Go Go.VC Go.Proofs Go.VC.F
def fc59SType := (ai (ai (ai (ai sz3 (ai ag3 zv3)) (ai (ai un3 sz4) (ai ag4 zv4))) (ai (ai (ai un4 sz25) (ai ag25 zv25)) (ai (ai sb25 un25) (ai el25 ap25)))) (ai (ai (ai (ai sz26 ag26) (ai zv26 sb26)) (ai (ai un26 el26) (ai ap26 sz28))) (ai (ai (ai ag28 zv28) (ai fl28_0 fl28_1)) (ai (ai fl28_2 pl28) (ai okf22 okf82)))))
theorem szType_of (t : Ty) (h : okTy (2^48) t) (H0 : ∀ left : Int, 0 ≤ left ∧ left ≤ 2^20 → FnP Tryz.prog 82 [slT eTy t.args, iT left] (iT (szR (zL zTy t.args) left))) (left : Int) (hl : 0 ≤ left ∧ left ≤ 2^20) : FnS Tryz.prog 59 [] [agT (eTy t), iT left] [] (iT (szR (zTy t) left)) := by
  refine FnS.go [0, 1, 2, 4, 10, 16] [] Tryz.func59 rfl (fun kt kz => ?_)
  have fcx := fc59SType
  simp only [Tryz.f59]
  have ho := okTy_iff.1 h
  refine Run ((ai @eTy_eta @szR_add)) ?_; with_reducible repeat' (first | exact True.intro | refine Lf.mk ?_ ?_ | intro hb)
  refine Cal ((ai @eTy_eta @szR_add)) (szStringS_ok _ ho.2.1 _ hl) ?_
  have hz := szR_le (n := zSL t.labels) hl.1
  refine Run ((ai @eTy_eta @szR_add)) ?_; with_reducible repeat' (first | exact True.intro | refine Lf.mk ?_ ?_ | intro hb)
  · congr 4; have s1 := szR_spec (zSL t.labels) left; have s2 := szR_spec (zTy t) left; rw [zTy_eta] at s2 ⊢; omega
  · skip
    refine Cal ((ai @eTy_eta @szR_add)) (H0 _ ⟨(by assumption), by have := szR_le (n := zSL t.labels) hl.1; omega⟩) ?_
    have hz := szR_le (n := zSL t.labels + zL zTy t.args) hl.1
    refine Run ((ai @eTy_eta @szR_add)) ?_; with_reducible repeat' (first | exact True.intro | refine Lf.mk ?_ ?_ | intro hb)
    · congr 4; have s1 := szR_spec (zSL t.labels + zL zTy t.args) left; have s2 := szR_spec (zTy t) left; rw [zTy_eta] at s2 ⊢; omega
    · skip
      rw [zTy_eta]
def fc82SType := (ai (ai (ai (ai sz3 (ai ag3 zv3)) (ai un3 (ai sz4 ag4))) (ai (ai zv4 (ai un4 sz26)) (ai ag26 (ai zv26 sb26)))) (ai (ai (ai un26 (ai el26 ap26)) (ai sz28 (ai ag28 zv28))) (ai (ai fl28_0 (ai fl28_1 fl28_2)) (ai pl28 (ai okf59 sz25)))))
theorem szTypeS_of (xs : List Ty) (hx : okLs (2^48) okTy xs) (H : ∀ t ∈ xs, ∀ left : Int, 0 ≤ left ∧ left ≤ 2^20 → FnP Tryz.prog 59 [agT (eTy t), iT left] (iT (szR (zTy t) left))) (left : Int) (hl : 0 ≤ left ∧ left ≤ 2^20) : FnS Tryz.prog 82 [] [slT eTy xs, iT left] [] (iT (szR (zL zTy xs) left)) := by
  refine FnS.go [0, 1, 4, 5, 11, 15, 25] [] Tryz.func82 rfl (fun kt kz => ?_)
  have fcx := fc82SType
  simp only [Tryz.f82]
  have hx1 := hx.1
  refine Run (cast_succ) ?_; with_reducible repeat' (first | exact True.intro | refine Lf.mk ?_ ?_ | intro hb)
  · simp only [szR_nil hb zL_len]
  · rw [szR_sub hb]
    have hb2 := szR_sub hb ▸ hb
    refine Trn (α := Nat) [1, 4, 5, 12, 13, 14, 15, 16, 17, 18, 19, 20, 21, 22, 23, 24, 25] (fun i => [(5, iT i), (1, iT (szR (zT zTy xs i) left))]) (fun i => []) (fun i => i ≤ xs.length ∧ 0 ≤ szR (zT zTy xs i) left) (fun i => xs.length - i) (0) (⟨Nat.zero_le _, by rw [zT_zero]; exact hb2⟩) ((zT_zero (z := zTy) (l := xs))) ?_; intro lx hI; obtain i := lx; (try simp only [List.nil_append, List.cons_append] at hI ⊢)
    have hz := szR_le (n := zT zTy xs lx) hl.1
    by_cases hlt : lx < xs.length
    · have e : szR (zTy xs[lx]) (szR (zT zTy xs lx) left) = szR (zT zTy xs (lx + 1)) left := by rw [zT_succ hlt, ← szR_add]
      refine Run (@eTy_eta) ?_; with_reducible repeat' (first | exact True.intro | refine Lf.mk ?_ ?_ | intro hb)
      · refine Cal (@eTy_eta) (H _ (List.getElem_mem hlt) _ ⟨hI.2, by omega⟩) ?_
        refine Run (cast_succ) ?_; with_reducible repeat' (first | exact True.intro | refine Lf.mk ?_ ?_ | intro hb)
        · rw [e] at hb
          rw [szR_neg hb zT_le]
        · rw [e] at hb
          exact Nxt (@e) (lx + 1) (⟨by omega, hb⟩) (by first | omega | (simp; omega))
      · omega
    · refine Run (cast_succ) ?_; with_reducible repeat' (first | exact True.intro | refine Lf.mk ?_ ?_ | intro hb)
      · omega
      · rw [zT_all (by omega)]

theorem szType_ok (t : Ty) (h : okTy (2^48) t) (left : Int) (hl : 0 ≤ left ∧ left ≤ 2^20) : FnP Tryz.prog 59 [agT (eTy t), iT left] (iT (szR (zTy t) left)) := szType_of t h (fun left hl => szTypeS_of t.args ((okTy_iff.1 h).2.2) (fun u hu left hl => szType_ok u (((okTy_iff.1 h).2.2).2 u hu) left hl) left hl) left hl
termination_by SizeOf.sizeOf t
decreasing_by all_goals first | exact Ty.mem hu | exact Val.mem hu | exact Tm.mem hu | exact Pl.mem hu | exact Hd.memP hu | exact Hd.memQ hu | exact Cmp.memH _
def fc70SType := (ai (ai (ai (ai (ai sz3 ag3) (ai zv3 (ai un3 sz25))) (ai (ai ag25 zv25) (ai sb25 (ai un25 el25)))) (ai (ai (ai ap25 sz26) (ai ag26 (ai zv26 sb26))) (ai (ai un26 el26) (ai ap26 (ai sz28 ag28))))) (ai (ai (ai (ai zv28 fl28_0) (ai fl28_1 (ai fl28_2 pl28))) (ai (ai sz41 ag41) (ai zv41 (ai sb41 un41)))) (ai (ai (ai el41 ap41) (ai sz43 (ai ag43 zv43))) (ai (ai fl43_0 (ai fl43_1 fl43_2)) (ai pl43 (ai okf33 okf92))))))
theorem toType_w (t : Ty) (h : okTy (2^20) t) (H0 : ∀ q : Nat, FnS Tryz.prog 92 [] [slT eTy t.args] [(q, .row t.args.length (t.args.flatMap eTy))] (.c (.os q t.args.length))) : FnS Tryz.prog 70 [] [agT (eTy t)] [(1000, .row t.labels.length (t.labels.flatMap eS)), (1002, .row t.args.length (t.args.flatMap eTy))] (.ag [.im (.sc (.int .i64 t.kind)), .os 1000 t.labels.length, .os 1002 t.args.length]) := by
  refine FnS.go [0, 1, 2, 3] [] Tryz.func70 rfl (fun kt kz => ?_)
  have fcx := fc70SType
  simp only [Tryz.f70]
  have ho := okTy_iff.1 h
  refine Run (@eTy_eta) ?_; with_reducible repeat' (first | exact True.intro | refine Lf.mk ?_ ?_ | intro hb)
  refine CalI (@eTy_eta) (toStringS_o _ ho.2.1 1000) ?_
  refine Run (@eTy_eta) ?_; with_reducible repeat' (first | exact True.intro | refine Lf.mk ?_ ?_ | intro hb)
  refine CalI (@eTy_eta) (H0 1002) ?_
  refine Run (@eTy_eta) ?_; with_reducible repeat' (first | exact True.intro | refine Lf.mk ?_ ?_ | intro hb)

theorem toType_q (t : Ty) (h : okTy (2^20) t) (H0 : ∀ q : Nat, FnS Tryz.prog 92 [] [slT eTy t.args] [(q, .row t.args.length (t.args.flatMap eTy))] (.c (.os q t.args.length))) : ∀ q0 q1 : Nat, [q0, q1].Nodup → FnS Tryz.prog 70 [] [agT (eTy t)] [(q0, .row t.labels.length (t.labels.flatMap eS)), (q1, .row t.args.length (t.args.flatMap eTy))] (.ag [.im (.sc (.int .i64 t.kind)), .os q0 t.labels.length, .os q1 t.args.length]) := by
  intro q0 q1 hq
  obtain ⟨p, hp⟩ := pml [1000, 1002] [q0, q1] (by decide) hq rfl
  simp only [List.map_cons, List.map_nil, List.cons.injEq, and_true] at hp
  refine ((toType_w t h H0).rows.pm p).as ?_ ?_ <;> simp [rowS, rowO, renS, Ob.ren, TV.ren, renL, Cell.ren, hp]
def fc92SType := (ai (ai (ai (ai (ai sz3 ag3) (ai zv3 un3)) (ai (ai sz4 ag4) (ai zv4 (ai un4 sz26)))) (ai (ai (ai ag26 zv26) (ai sb26 (ai un26 el26))) (ai (ai ap26 sz28) (ai ag28 (ai zv28 fl28_0))))) (ai (ai (ai (ai fl28_1 fl28_2) (ai pl28 sz41)) (ai (ai ag41 zv41) (ai sb41 (ai un41 el41)))) (ai (ai (ai ap41 sz43) (ai ag43 (ai zv43 fl43_0))) (ai (ai fl43_1 fl43_2) (ai pl43 (ai okf70 sz25))))))
theorem toTypeS_w (xs : List Ty) (hx : okLs (2^20) okTy xs) (H : ∀ t ∈ xs, ∀ q0 q1 : Nat, [q0, q1].Nodup → FnS Tryz.prog 70 [] [agT (eTy t)] [(q0, .row t.labels.length (t.labels.flatMap eS)), (q1, .row t.args.length (t.args.flatMap eTy))] (.ag [.im (.sc (.int .i64 t.kind)), .os q0 t.labels.length, .os q1 t.args.length])) : FnS Tryz.prog 92 [] [slT eTy xs] [(14, .vec 43 3 xs.length (xs.flatMap eTy) true)] (.c (.os 14 xs.length)) := by
  refine FnS.go [0, 2, 3, 4, 11] [] Tryz.func92 rfl (fun kt kz => ?_)
  have fcx := fc92SType
  simp only [Tryz.f92]
  have hx1 := hx.1
  refine Run (cast_succ) ?_; with_reducible repeat' (first | exact True.intro | refine Lf.mk ?_ ?_ | intro hb)
  refine Trn (α := Nat) [4, 8, 9, 10, 11, 12, 13, 14, 15, 16, 17, 18, 19, 20, 21] (fun i => [(4, iT i), (3, .c (.os 14 xs.length))]) (fun i => [(14, .vec 43 3 xs.length (filled eTy [.sc (.int .i64 0), .sl 0 [], .sl 0 []] xs i) true)]) (fun i => i ≤ xs.length) (fun i => xs.length - i) (0) (Nat.zero_le _) (cast_succ) ?_; intro lx hI; obtain i := lx; (try simp only [List.nil_append, List.cons_append] at hI ⊢)
  refine Run (@eTy_eta) ?_; with_reducible repeat' (first | exact True.intro | refine Lf.mk ?_ ?_ | intro hb)
  · refine CalI (@eTy_eta) (H _ (List.getElem_mem hb) 1000 1002 (by decide)) ?_
    refine Run (@eTy_eta) ?_; with_reducible repeat' (first | exact True.intro | refine Lf.mk ?_ ?_ | intro hb)
    have hs := filled_step' (E := eTy) (zs := [.sc (.int .i64 0), .sl 0 [], .sl 0 []]) hb
    simp only [eTy_eta, setL_st, stL_one, slI] at hs
    exact Nxt (@hs) (lx + 1) (by omega) (by first | omega | (simp; omega))

theorem toTypeS_q (xs : List Ty) (hx : okLs (2^20) okTy xs) (H : ∀ t ∈ xs, ∀ q0 q1 : Nat, [q0, q1].Nodup → FnS Tryz.prog 70 [] [agT (eTy t)] [(q0, .row t.labels.length (t.labels.flatMap eS)), (q1, .row t.args.length (t.args.flatMap eTy))] (.ag [.im (.sc (.int .i64 t.kind)), .os q0 t.labels.length, .os q1 t.args.length])) (q : Nat) : FnS Tryz.prog 92 [] [slT eTy xs] [(q, .row xs.length (xs.flatMap eTy))] (.c (.os q xs.length)) := by
  obtain ⟨p, hp⟩ := pm1 14 q
  refine ((toTypeS_w xs hx H).rows.pm p).as ?_ ?_ <;> simp [rowS, rowO, renS, Ob.ren, TV.ren, Cell.ren, hp]

theorem toType_o (t : Ty) (h : okTy (2^20) t) : ∀ q0 q1 : Nat, [q0, q1].Nodup → FnS Tryz.prog 70 [] [agT (eTy t)] [(q0, .row t.labels.length (t.labels.flatMap eS)), (q1, .row t.args.length (t.args.flatMap eTy))] (.ag [.im (.sc (.int .i64 t.kind)), .os q0 t.labels.length, .os q1 t.args.length]) := toType_q t h (fun q => toTypeS_q t.args ((okTy_iff.1 h).2.2) (fun u hu => toType_o u (((okTy_iff.1 h).2.2).2 u hu)) q)
termination_by SizeOf.sizeOf t
decreasing_by all_goals first | exact Ty.mem hu | exact Val.mem hu | exact Tm.mem hu | exact Pl.mem hu | exact Hd.memP hu | exact Hd.memQ hu | exact Cmp.memH _
def fc15SType := (ai (ai (ai (ai sz3 (ai ag3 zv3)) (ai (ai un3 sz4) (ai ag4 zv4))) (ai (ai (ai un4 sz25) (ai ag25 zv25)) (ai (ai sb25 un25) (ai el25 ap25)))) (ai (ai (ai (ai sz41 ag41) (ai zv41 sb41)) (ai (ai un41 el41) (ai ap41 sz43))) (ai (ai (ai ag43 zv43) (ai fl43_0 fl43_1)) (ai (ai fl43_2 pl43) (ai okf45 okf51)))))
theorem eqType_of (t : Ty) (h : okTy (2^20) t) (H0 : FnP Tryz.prog 51 [slT eTy t.args, slT eTy t.args] (bT true)) : FnS Tryz.prog 15 [] [agT (eTy t), agT (eTy t)] [] (bT true) := by
  refine FnS.go [0, 1, 2, 3, 4, 9, 15, 21] [] Tryz.func15 rfl (fun kt kz => ?_)
  have fcx := fc15SType
  simp only [Tryz.f15]
  have ho := okTy_iff.1 h
  refine Run (@eTy_eta) ?_; with_reducible repeat' (first | exact True.intro | refine Lf.mk ?_ ?_ | intro hb)
  refine Cal (@eTy_eta) (eqStringS_rf _ ho.2.1) ?_
  refine Run (@eTy_eta) ?_; with_reducible repeat' (first | exact True.intro | refine Lf.mk ?_ ?_ | intro hb)
  refine Cal (@eTy_eta) (H0) ?_
  refine Run (@eTy_eta) ?_; with_reducible repeat' (first | exact True.intro | refine Lf.mk ?_ ?_ | intro hb)
def fc51SType := (ai (ai (ai (ai sz3 (ai ag3 zv3)) (ai un3 (ai sz4 ag4))) (ai (ai zv4 (ai un4 sz41)) (ai ag41 (ai zv41 sb41)))) (ai (ai (ai un41 (ai el41 ap41)) (ai sz43 (ai ag43 zv43))) (ai (ai fl43_0 (ai fl43_1 fl43_2)) (ai pl43 (ai okf15 sz25)))))
theorem eqTypeS_of (xs : List Ty) (hx : okLs (2^20) okTy xs) (H : ∀ t ∈ xs, FnP Tryz.prog 15 [agT (eTy t), agT (eTy t)] (bT true)) : FnS Tryz.prog 51 [] [slT eTy xs, slT eTy xs] [] (bT true) := by
  refine FnS.go [0, 1, 4, 5, 10, 14, 26] [] Tryz.func51 rfl (fun kt kz => ?_)
  have fcx := fc51SType
  simp only [Tryz.f51]
  have hx1 := hx.1
  refine Run (cast_succ) ?_; with_reducible repeat' (first | exact True.intro | refine Lf.mk ?_ ?_ | intro hb)
  refine Trn (α := Nat) [4, 5, 11, 12, 13, 14, 15, 16, 17, 18, 19, 20, 21, 22, 23, 24, 25, 26] (fun i => [(5, iT i)]) (fun i => []) (fun i => i ≤ xs.length) (fun i => xs.length - i) (0) (Nat.zero_le _) (cast_succ) ?_; intro lx hI; obtain i := lx; (try simp only [List.nil_append, List.cons_append] at hI ⊢)
  refine Run (@eTy_eta) ?_; with_reducible repeat' (first | exact True.intro | refine Lf.mk ?_ ?_ | intro hb)
  · refine Cal (@eTy_eta) (H _ (List.getElem_mem hb)) ?_
    refine Run (@eTy_eta) ?_; with_reducible repeat' (first | exact True.intro | refine Lf.mk ?_ ?_ | intro hb)
    exact Nxt (cast_succ) (lx + 1) (by omega) (by first | omega | (simp; omega))

theorem eqType_ok (t : Ty) (h : okTy (2^20) t) : FnP Tryz.prog 15 [agT (eTy t), agT (eTy t)] (bT true) := eqType_of t h (eqTypeS_of t.args ((okTy_iff.1 h).2.2) (fun u hu => eqType_ok u (((okTy_iff.1 h).2.2).2 u hu)))
termination_by SizeOf.sizeOf t
decreasing_by all_goals first | exact Ty.mem hu | exact Val.mem hu | exact Tm.mem hu | exact Pl.mem hu | exact Hd.memP hu | exact Hd.memQ hu | exact Cmp.memH _
end Go.VC.T
/- Data (TableDecl): how they are measured, copied and compared. -/
namespace Go.VC.T
open Go Go.VC Go.Proofs Go.VC.F
def fc58STableDecl := (ai (ai (ai (ai sz3 (ai ag3 zv3)) (ai (ai un3 sz4) (ai ag4 zv4))) (ai (ai un4 (ai sz9 ag9)) (ai (ai zv9 un9) (ai sz28 ag28)))) (ai (ai (ai zv28 (ai fl28_0 fl28_1)) (ai (ai fl28_2 pl28) (ai sz93 ag93))) (ai (ai zv93 (ai fl93_0 fl93_1)) (ai (ai pl93 okf59) (ai sz25 sz26)))))
theorem szTableDecl_ok (t : Decl) (h : okDecl (2^48) t) (left : Int) (hl : 0 ≤ left ∧ left ≤ 2^20) : FnS Tryz.prog 58 [] [agT (eDecl t), iT left] [] (iT (szR (zDecl t) left)) := by
  refine FnS.go [0, 1, 2, 4, 11, 17] [] Tryz.func58 rfl (fun kt kz => ?_)
  have fcx := fc58STableDecl
  simp only [Tryz.f58]
  have ho := okDecl_iff.1 h
  have hs0 : t.name.size = zS t.name := rfl
  have hw0 : zS t.name ≤ 2^48 := ho.1
  refine Run ((ai (ai @eDecl_eta @eTy_eta) (ai @hs0 @szR_add))) ?_; with_reducible repeat' (first | exact True.intro | refine Lf.mk ?_ ?_ | intro hb)
  · congr 4; have s2 := szR_spec (zDecl t) left; rw [zDecl_eta] at s2 ⊢; omega
  · skip
    have e : left - (zS t.name : Int) = szR (zS t.name) left := by have s3 := szR_spec (zS t.name) left; omega
    rw [e] at hb ⊢
    refine Cal ((ai (ai @eDecl_eta @eTy_eta) (ai @hs0 @szR_add))) (szType_ok _ ho.2 _ ⟨(by assumption), by have := szR_le (n := zS t.name) hl.1; omega⟩) ?_
    have hz := szR_le (n := zS t.name + zTy t.row) hl.1
    refine Run ((ai (ai @eDecl_eta @eTy_eta) (ai @hs0 @szR_add))) ?_; with_reducible repeat' (first | exact True.intro | refine Lf.mk ?_ ?_ | intro hb)
    · congr 4; have s1 := szR_spec (zS t.name + zTy t.row) left; have s2 := szR_spec (zDecl t) left; rw [zDecl_eta] at s2 ⊢; omega
    · skip
      rw [zDecl_eta]
def fc20STableDecl := (ai (ai (ai (ai sz3 (ai ag3 zv3)) (ai un3 (ai sz4 ag4))) (ai (ai zv4 (ai un4 sz22)) (ai ag22 (ai zv22 sb22)))) (ai (ai (ai un22 (ai el22 ap22)) (ai sz93 (ai ag93 zv93))) (ai (ai fl93_0 (ai fl93_1 pl93)) (ai okf58 (ai sz9 sz28)))))
theorem szTableDeclS_of (xs : List Decl) (hx : okLs (2^48) okDecl xs) (H : ∀ t ∈ xs, ∀ left : Int, 0 ≤ left ∧ left ≤ 2^20 → FnP Tryz.prog 58 [agT (eDecl t), iT left] (iT (szR (zDecl t) left))) (left : Int) (hl : 0 ≤ left ∧ left ≤ 2^20) : FnS Tryz.prog 20 [] [slT eDecl xs, iT left] [] (iT (szR (zL zDecl xs) left)) := by
  refine FnS.go [0, 1, 4, 5, 11, 15, 25] [] Tryz.func20 rfl (fun kt kz => ?_)
  have fcx := fc20STableDecl
  simp only [Tryz.f20]
  have hx1 := hx.1
  refine Run (cast_succ) ?_; with_reducible repeat' (first | exact True.intro | refine Lf.mk ?_ ?_ | intro hb)
  · simp only [szR_nil hb zL_len]
  · rw [szR_sub hb]
    have hb2 := szR_sub hb ▸ hb
    refine Trn (α := Nat) [1, 4, 5, 12, 13, 14, 15, 16, 17, 18, 19, 20, 21, 22, 23, 24, 25] (fun i => [(5, iT i), (1, iT (szR (zT zDecl xs i) left))]) (fun i => []) (fun i => i ≤ xs.length ∧ 0 ≤ szR (zT zDecl xs i) left) (fun i => xs.length - i) (0) (⟨Nat.zero_le _, by rw [zT_zero]; exact hb2⟩) ((zT_zero (z := zDecl) (l := xs))) ?_; intro lx hI; obtain i := lx; (try simp only [List.nil_append, List.cons_append] at hI ⊢)
    have hz := szR_le (n := zT zDecl xs lx) hl.1
    by_cases hlt : lx < xs.length
    · have e : szR (zDecl xs[lx]) (szR (zT zDecl xs lx) left) = szR (zT zDecl xs (lx + 1)) left := by rw [zT_succ hlt, ← szR_add]
      refine Run ((ai @eDecl_eta @eTy_eta)) ?_; with_reducible repeat' (first | exact True.intro | refine Lf.mk ?_ ?_ | intro hb)
      · refine Cal ((ai @eDecl_eta @eTy_eta)) (H _ (List.getElem_mem hlt) _ ⟨hI.2, by omega⟩) ?_
        refine Run (cast_succ) ?_; with_reducible repeat' (first | exact True.intro | refine Lf.mk ?_ ?_ | intro hb)
        · rw [e] at hb
          rw [szR_neg hb zT_le]
        · rw [e] at hb
          exact Nxt (@e) (lx + 1) (⟨by omega, hb⟩) (by first | omega | (simp; omega))
      · omega
    · refine Run (cast_succ) ?_; with_reducible repeat' (first | exact True.intro | refine Lf.mk ?_ ?_ | intro hb)
      · omega
      · rw [zT_all (by omega)]

theorem szTableDeclS_ok (xs : List Decl) (h : okLs (2^48) okDecl xs) (left : Int) (hl : 0 ≤ left ∧ left ≤ 2^20) : FnP Tryz.prog 20 [slT eDecl xs, iT left] (iT (szR (zL zDecl xs) left)) := szTableDeclS_of xs h (fun t ht left hl => szTableDecl_ok t (h.2 t ht) left hl) left hl
def fc69STableDecl := (ai (ai (ai (ai (ai sz9 ag9) (ai zv9 un9)) (ai (ai sz28 ag28) (ai zv28 fl28_0))) (ai (ai (ai fl28_1 fl28_2) (ai pl28 sz43)) (ai (ai ag43 zv43) (ai fl43_0 (ai fl43_1 fl43_2))))) (ai (ai (ai (ai pl43 sz93) (ai ag93 zv93)) (ai (ai fl93_0 fl93_1) (ai pl93 (ai sz97 ag97)))) (ai (ai (ai zv97 fl97_0) (ai fl97_1 pl97)) (ai (ai okf70 sz3) (ai sz25 (ai sz26 sz41))))))
theorem toTableDecl_w (t : Decl) (h : okDecl (2^20) t) : FnS Tryz.prog 69 [] [agT (eDecl t)] [(1000, .row t.row.labels.length (t.row.labels.flatMap eS)), (1002, .row t.row.args.length (t.row.args.flatMap eTy))] (.ag [.im (.sc (.string t.name)), .im (.sc (.int .i64 t.row.kind)), .os 1000 t.row.labels.length, .os 1002 t.row.args.length]) := by
  refine FnS.go [0, 1, 2, 3] [] Tryz.func69 rfl (fun kt kz => ?_)
  have fcx := fc69STableDecl
  simp only [Tryz.f69]
  have ho := okDecl_iff.1 h
  refine Run ((ai @eDecl_eta @eTy_eta)) ?_; with_reducible repeat' (first | exact True.intro | refine Lf.mk ?_ ?_ | intro hb)
  refine CalI ((ai @eDecl_eta @eTy_eta)) (toType_o _ ho.2 1000 1002 (by decide)) ?_
  refine Run ((ai @eDecl_eta @eTy_eta)) ?_; with_reducible repeat' (first | exact True.intro | refine Lf.mk ?_ ?_ | intro hb)

theorem toTableDecl_o (t : Decl) (h : okDecl (2^20) t) : ∀ q0 q1 : Nat, [q0, q1].Nodup → FnS Tryz.prog 69 [] [agT (eDecl t)] [(q0, .row t.row.labels.length (t.row.labels.flatMap eS)), (q1, .row t.row.args.length (t.row.args.flatMap eTy))] (.ag [.im (.sc (.string t.name)), .im (.sc (.int .i64 t.row.kind)), .os q0 t.row.labels.length, .os q1 t.row.args.length]) := by
  intro q0 q1 hq
  obtain ⟨p, hp⟩ := pml [1000, 1002] [q0, q1] (by decide) hq rfl
  simp only [List.map_cons, List.map_nil, List.cons.injEq, and_true] at hp
  refine ((toTableDecl_w t h).rows.pm p).as ?_ ?_ <;> simp [rowS, rowO, renS, Ob.ren, TV.ren, renL, Cell.ren, hp]
def fc31STableDecl := (ai (ai (ai (ai (ai sz3 ag3) (ai zv3 un3)) (ai (ai sz4 ag4) (ai zv4 (ai un4 sz22)))) (ai (ai (ai ag22 zv22) (ai sb22 (ai un22 el22))) (ai (ai ap22 sz37) (ai ag37 (ai zv37 sb37))))) (ai (ai (ai (ai un37 el37) (ai ap37 sz93)) (ai (ai ag93 zv93) (ai fl93_0 (ai fl93_1 pl93)))) (ai (ai (ai sz97 ag97) (ai zv97 (ai fl97_0 fl97_1))) (ai (ai pl97 okf69) (ai sz9 (ai sz28 sz43))))))
theorem toTableDeclS_w (xs : List Decl) (hx : okLs (2^20) okDecl xs) (H : ∀ t ∈ xs, ∀ q0 q1 : Nat, [q0, q1].Nodup → FnS Tryz.prog 69 [] [agT (eDecl t)] [(q0, .row t.row.labels.length (t.row.labels.flatMap eS)), (q1, .row t.row.args.length (t.row.args.flatMap eTy))] (.ag [.im (.sc (.string t.name)), .im (.sc (.int .i64 t.row.kind)), .os q0 t.row.labels.length, .os q1 t.row.args.length])) : FnS Tryz.prog 31 [] [slT eDecl xs] [(14, .vec 97 4 xs.length (xs.flatMap eDecl) true)] (.c (.os 14 xs.length)) := by
  refine FnS.go [0, 2, 3, 4, 11] [] Tryz.func31 rfl (fun kt kz => ?_)
  have fcx := fc31STableDecl
  simp only [Tryz.f31]
  have hx1 := hx.1
  refine Run (cast_succ) ?_; with_reducible repeat' (first | exact True.intro | refine Lf.mk ?_ ?_ | intro hb)
  refine Trn (α := Nat) [4, 8, 9, 10, 11, 12, 13, 14, 15, 16, 17, 18, 19, 20, 21] (fun i => [(4, iT i), (3, .c (.os 14 xs.length))]) (fun i => [(14, .vec 97 4 xs.length (filled eDecl [.sc (.string ⟨#[]⟩), .sc (.int .i64 0), .sl 0 [], .sl 0 []] xs i) true)]) (fun i => i ≤ xs.length) (fun i => xs.length - i) (0) (Nat.zero_le _) (cast_succ) ?_; intro lx hI; obtain i := lx; (try simp only [List.nil_append, List.cons_append] at hI ⊢)
  refine Run ((ai @eDecl_eta @eTy_eta)) ?_; with_reducible repeat' (first | exact True.intro | refine Lf.mk ?_ ?_ | intro hb)
  · refine CalI ((ai @eDecl_eta @eTy_eta)) (H _ (List.getElem_mem hb) 1000 1002 (by decide)) ?_
    refine Run ((ai @eDecl_eta @eTy_eta)) ?_; with_reducible repeat' (first | exact True.intro | refine Lf.mk ?_ ?_ | intro hb)
    have hs := filled_step' (E := eDecl) (zs := [.sc (.string ⟨#[]⟩), .sc (.int .i64 0), .sl 0 [], .sl 0 []]) hb
    simp only [eDecl_eta, eTy_eta, setL_st, stL_one, slI] at hs
    exact Nxt (@hs) (lx + 1) (by omega) (by first | omega | (simp; omega))

theorem toTableDeclS_q (xs : List Decl) (hx : okLs (2^20) okDecl xs) (H : ∀ t ∈ xs, ∀ q0 q1 : Nat, [q0, q1].Nodup → FnS Tryz.prog 69 [] [agT (eDecl t)] [(q0, .row t.row.labels.length (t.row.labels.flatMap eS)), (q1, .row t.row.args.length (t.row.args.flatMap eTy))] (.ag [.im (.sc (.string t.name)), .im (.sc (.int .i64 t.row.kind)), .os q0 t.row.labels.length, .os q1 t.row.args.length])) (q : Nat) : FnS Tryz.prog 31 [] [slT eDecl xs] [(q, .row xs.length (xs.flatMap eDecl))] (.c (.os q xs.length)) := by
  obtain ⟨p, hp⟩ := pm1 14 q
  refine ((toTableDeclS_w xs hx H).rows.pm p).as ?_ ?_ <;> simp [rowS, rowO, renS, Ob.ren, TV.ren, Cell.ren, hp]

theorem toTableDeclS_o (xs : List Decl) (h : okLs (2^20) okDecl xs) (q : Nat) : FnS Tryz.prog 31 [] [slT eDecl xs] [(q, .row xs.length (xs.flatMap eDecl))] (.c (.os q xs.length)) := toTableDeclS_q xs h (fun t ht => toTableDecl_o t (h.2 t ht)) q
def fc78STableDecl := (ai (ai (ai (ai sz4 (ai ag4 zv4)) (ai un4 (ai sz9 ag9))) (ai (ai zv9 (ai un9 sz43)) (ai ag43 (ai zv43 fl43_0)))) (ai (ai (ai fl43_1 (ai fl43_2 pl43)) (ai sz97 (ai ag97 zv97))) (ai (ai fl97_0 (ai fl97_1 pl97)) (ai (ai okf15 sz3) (ai sz25 sz41)))))
theorem eqTableDecl_ok (t : Decl) (h : okDecl (2^20) t) : FnS Tryz.prog 78 [] [agT (eDecl t), agT (eDecl t)] [] (bT true) := by
  refine FnS.go [0, 1, 2, 3, 4, 9, 15] [] Tryz.func78 rfl (fun kt kz => ?_)
  have fcx := fc78STableDecl
  simp only [Tryz.f78]
  have ho := okDecl_iff.1 h
  refine Run ((ai @eDecl_eta @eTy_eta)) ?_; with_reducible repeat' (first | exact True.intro | refine Lf.mk ?_ ?_ | intro hb)
  refine Cal ((ai @eDecl_eta @eTy_eta)) (eqType_ok _ ho.2) ?_
  refine Run ((ai @eDecl_eta @eTy_eta)) ?_; with_reducible repeat' (first | exact True.intro | refine Lf.mk ?_ ?_ | intro hb)
def fc43STableDecl := (ai (ai (ai (ai sz3 (ai ag3 zv3)) (ai un3 (ai sz4 ag4))) (ai (ai zv4 (ai un4 sz37)) (ai ag37 (ai zv37 sb37)))) (ai (ai (ai un37 (ai el37 ap37)) (ai sz97 (ai ag97 zv97))) (ai (ai fl97_0 (ai fl97_1 pl97)) (ai okf78 (ai sz9 sz43)))))
theorem eqTableDeclS_of (xs : List Decl) (hx : okLs (2^20) okDecl xs) (H : ∀ t ∈ xs, FnP Tryz.prog 78 [agT (eDecl t), agT (eDecl t)] (bT true)) : FnS Tryz.prog 43 [] [slT eDecl xs, slT eDecl xs] [] (bT true) := by
  refine FnS.go [0, 1, 4, 5, 10, 14, 26] [] Tryz.func43 rfl (fun kt kz => ?_)
  have fcx := fc43STableDecl
  simp only [Tryz.f43]
  have hx1 := hx.1
  refine Run (cast_succ) ?_; with_reducible repeat' (first | exact True.intro | refine Lf.mk ?_ ?_ | intro hb)
  refine Trn (α := Nat) [4, 5, 11, 12, 13, 14, 15, 16, 17, 18, 19, 20, 21, 22, 23, 24, 25, 26] (fun i => [(5, iT i)]) (fun i => []) (fun i => i ≤ xs.length) (fun i => xs.length - i) (0) (Nat.zero_le _) (cast_succ) ?_; intro lx hI; obtain i := lx; (try simp only [List.nil_append, List.cons_append] at hI ⊢)
  refine Run ((ai @eDecl_eta @eTy_eta)) ?_; with_reducible repeat' (first | exact True.intro | refine Lf.mk ?_ ?_ | intro hb)
  · refine Cal ((ai @eDecl_eta @eTy_eta)) (H _ (List.getElem_mem hb)) ?_
    refine Run ((ai @eDecl_eta @eTy_eta)) ?_; with_reducible repeat' (first | exact True.intro | refine Lf.mk ?_ ?_ | intro hb)
    exact Nxt (cast_succ) (lx + 1) (by omega) (by first | omega | (simp; omega))

theorem eqTableDeclS_ok (xs : List Decl) (h : okLs (2^20) okDecl xs) : FnP Tryz.prog 43 [slT eDecl xs, slT eDecl xs] (bT true) := eqTableDeclS_of xs h (fun t ht => eqTableDecl_ok t (h.2 t ht))
end Go.VC.T
/- Data (Schema): how they are measured, copied and compared. -/
namespace Go.VC.T
open Go Go.VC Go.Proofs Go.VC.F
def fc5SSchema := (ai (ai (ai (ai sz3 ag3) (ai zv3 (ai un3 sz4))) (ai (ai ag4 zv4) (ai un4 (ai sz22 ag22)))) (ai (ai (ai zv22 sb22) (ai un22 (ai el22 ap22))) (ai (ai sz24 (ai ag24 zv24)) (ai fl24_0 (ai pl24 okf20)))))
theorem szSchema_ok (t : List Decl) (h : okSch (2^48) t) (left : Int) (hl : 0 ≤ left ∧ left ≤ 2^20) : FnS Tryz.prog 5 [] [agT (eSch t), iT left] [] (iT (szR (zSch t) left)) := by
  refine FnS.go [0, 1, 2, 4, 10] [] Tryz.func5 rfl (fun kt kz => ?_)
  have fcx := fc5SSchema
  simp only [Tryz.f5]
  have ho := okSch_iff.1 h
  refine Run ((ai @eSch_eta @szR_add)) ?_; with_reducible repeat' (first | exact True.intro | refine Lf.mk ?_ ?_ | intro hb)
  refine Cal ((ai @eSch_eta @szR_add)) (szTableDeclS_ok _ ho _ hl) ?_
  have hz := szR_le (n := zL zDecl t) hl.1
  refine Run ((ai @eSch_eta @szR_add)) ?_; with_reducible repeat' (first | exact True.intro | refine Lf.mk ?_ ?_ | intro hb)
  · congr 4; have s1 := szR_spec (zL zDecl t) left; have s2 := szR_spec (zSch t) left; rw [zSch_eta] at s2 ⊢; omega
  · skip
    rw [zSch_eta]

def fc8SSchema := (ai (ai (ai (ai sz22 (ai ag22 zv22)) (ai sb22 (ai un22 el22))) (ai (ai ap22 (ai sz24 ag24)) (ai zv24 (ai fl24_0 pl24)))) (ai (ai (ai sz37 (ai ag37 zv37)) (ai sb37 (ai un37 el37))) (ai (ai ap37 (ai sz39 ag39)) (ai (ai zv39 fl39_0) (ai pl39 okf31)))))
theorem toSchema_w (t : List Decl) (h : okSch (2^20) t) : FnS Tryz.prog 8 [] [agT (eSch t)] [(1000, .row t.length (t.flatMap eDecl))] (.ag [.os 1000 t.length]) := by
  refine FnS.go [0, 1, 2, 3] [] Tryz.func8 rfl (fun kt kz => ?_)
  have fcx := fc8SSchema
  simp only [Tryz.f8]
  have ho := okSch_iff.1 h
  refine Run (@eSch_eta) ?_; with_reducible repeat' (first | exact True.intro | refine Lf.mk ?_ ?_ | intro hb)
  refine CalI (@eSch_eta) (toTableDeclS_o _ ho 1000) ?_
  refine Run (@eSch_eta) ?_; with_reducible repeat' (first | exact True.intro | refine Lf.mk ?_ ?_ | intro hb)

theorem toSchema_o (t : List Decl) (h : okSch (2^20) t) : ∀ q0 : Nat, [q0].Nodup → FnS Tryz.prog 8 [] [agT (eSch t)] [(q0, .row t.length (t.flatMap eDecl))] (.ag [.os q0 t.length]) := by
  intro q0 hq
  obtain ⟨p, hp⟩ := pml [1000] [q0] (by decide) hq rfl
  simp only [List.map_cons, List.map_nil, List.cons.injEq, and_true] at hp
  refine ((toSchema_w t h).rows.pm p).as ?_ ?_ <;> simp [rowS, rowO, renS, Ob.ren, TV.ren, renL, Cell.ren, hp]

def fc11SSchema := (ai (ai (ai (ai sz4 ag4) (ai zv4 un4)) (ai (ai sz37 ag37) (ai zv37 sb37))) (ai (ai (ai un37 el37) (ai ap37 sz39)) (ai (ai ag39 zv39) (ai fl39_0 (ai pl39 okf43)))))
theorem eqSchema_ok (t : List Decl) (h : okSch (2^20) t) : FnS Tryz.prog 11 [] [agT (eSch t), agT (eSch t)] [] (bT true) := by
  refine FnS.go [0, 1, 2, 3, 4, 10] [] Tryz.func11 rfl (fun kt kz => ?_)
  have fcx := fc11SSchema
  simp only [Tryz.f11]
  have ho := okSch_iff.1 h
  refine Run (@eSch_eta) ?_; with_reducible repeat' (first | exact True.intro | refine Lf.mk ?_ ?_ | intro hb)
  refine Cal (@eSch_eta) (eqTableDeclS_ok _ ho) ?_
  refine Run (@eSch_eta) ?_; with_reducible repeat' (first | exact True.intro | refine Lf.mk ?_ ?_ | intro hb)

theorem toSchema_ok (t : List Decl) (h : okSch (2^20) t) : FnP Tryz.prog 8 [agT (eSch t)] (agT (eSch t)) := (toSchema_o t h 1000 (by decide)).tree (by simp -dsimp (maxSteps := 2000000) (disch := omega) only [vs, ↓Option.bind_some, ev1, ofV, scalarB, Kn, Kb, calleeOf, evLoad, ptr, evField, evFieldAddr, shift, ↓pt_at, ↓pt_at1, evExtract, evBin, evLen, evConv, cellsT, noS, Cell.has, Cell.hasN, Cell.anyN, toIV, toIV0, toIVs, ownC, srcM, Ob.own, Ob.esz, allSc, nilK, lenC, ownCell, isPtr, ptrNil, frzO, Cell.frz, Cell.keys, ↓reduceIte, reduceCtorEq, Nat.reduceEqDiff, Nat.reduceBEq, Nat.reduceBNe, Nat.reduceAdd, Nat.reduceMul, Nat.reduceSub, Nat.reduceLT, Nat.reduceLeDiff, Nat.reducePow, Int.reduceLT, Int.reduceLE, Int.reduceEq, Int.reduceNe, quietB, Nat.reduceMod, Int.reduceToNat, ne_eq, eq_self, exists_const, evBytes, byRow, byL, byStr_size, ifsz, ByteArray.size_append, Option.none_or, Option.some_or, evLook, keyD, eSch_eta])

end Go.VC.T
/- Schemas that are right: both sides. -/
namespace Go.VC
theorem zSch_row {s : List Decl} {d : Decl} (hd : d ∈ s) : zTy d.row ≤ zSch s := by
  have h1 := zL_mem (z := zDecl) hd
  have h2 := zDecl_eta d
  have h3 := zSch_eta s
  omega
end Go.VC
namespace Go.VC.T
open Go Go.VC Go.Proofs Go.VC.F
def fc24A68 := (ai (ai (ai (ai (ai sz3 (ai ag3 zv3)) (ai un3 (ai sz4 ag4))) (ai (ai zv4 (ai un4 sz9)) (ai ag9 (ai zv9 un9)))) (ai (ai (ai sz25 (ai ag25 zv25)) (ai sb25 (ai un25 el25))) (ai (ai ap25 (ai sz37 ag37)) (ai zv37 (ai sb37 un37))))) (ai (ai (ai (ai el37 (ai ap37 sz39)) (ai ag39 (ai zv39 fl39_0))) (ai (ai pl39 (ai sz43 ag43)) (ai zv43 (ai fl43_0 fl43_1)))) (ai (ai (ai fl43_2 (ai pl43 sz97)) (ai ag97 (ai zv97 fl97_0))) (ai (ai fl97_1 (ai pl97 okf25)) (ai okf62 (ai okf63 sz41))))))
theorem specSch_ok (s : List Decl) (h : okSch (2^20) s) (hz : zSch s ≤ 2^20) : FnS Tryz.prog 24 [] [agT (eSch s)] [] (bT (decide (SchOk s))) := by
  refine FnS.go [0, 1, 2, 3, 4, 10, 30] [] Tryz.func24 rfl (fun kt kz => ?_)
  have fcx := fc24A68
  simp only [Tryz.f24]
  have ho := okSch_iff.1 h
  have hln := ho.1
  refine Run (@eSch_eta) ?_; with_reducible repeat' (first | exact True.intro | refine Lf.mk ?_ ?_ | intro hb)
  refine Trn (α := Nat) [2, 3, 4, 6, 7, 8, 9, 10, 11, 12, 13, 14, 15, 16, 17, 18, 19, 20, 21, 22, 23, 24, 25, 26, 27, 28, 29, 30, 31, 32, 33, 34, 35, 36, 37, 38, 39] (fun i => [(4, iT i), (3, .c (.os 10 i))]) (fun i => [(2, .box 39 ((eSch s).map .im)), (10, .vec 9 1 i (((s.map Decl.name).take i).flatMap eS) true)]) (fun i => i ≤ s.length ∧ ∀ d ∈ s.take i, NameOk d.name ∧ RowOk' d.row) (fun i => s.length - i) (0) (⟨Nat.zero_le _, fun s hs => by simp at hs⟩) (@eSch_eta) ?_; intro lx hI; obtain i := lx; (try simp only [List.nil_append, List.cons_append] at hI ⊢)
  by_cases hlt : lx < s.length
  · have hod := okDecl_iff.1 (ho.2 _ (List.getElem_mem hlt))
    have hzd := zSch_row (List.getElem_mem hlt)
    have hn : s[lx].name.size ≤ 2^20 := hod.1
    refine Run ((ai @eSch_eta (ai @eDecl_eta @hlt))) ?_; with_reducible repeat' (first | exact True.intro | refine Lf.mk ?_ ?_ | intro hb)
    refine Cal ((ai @eSch_eta @eDecl_eta)) (specName_ok s[lx].name (by omega)) ?_
    by_cases hf : NameOk s[lx].name
    · have gf := eq_true hf
      refine Run ((ai (ai @eSch_eta @eDecl_eta) (ai @gf @hlt))) ?_; with_reducible repeat' (first | exact True.intro | refine Lf.mk ?_ ?_ | intro hb)
      refine Cal ((ai @eSch_eta (ai @eDecl_eta @eTy_eta))) (specRow_ok s[lx].row hod.2 (by omega)) ?_
      by_cases hr : RowOk' s[lx].row
      · have gr := eq_true hr
        have hlm : lx < (s.map Decl.name).length := by rw [List.length_map]; exact hlt
        have en : ((s.map Decl.name).take (lx + 1)).flatMap eS = ((s.map Decl.name).take lx).flatMap eS ++ [.sc (.string s[lx].name)] := by rw [take_at hlm, List.flatMap_append, List.getElem_map]; rfl
        refine Run ((ai (ai @eSch_eta @eDecl_eta) (ai @gr @hlt))) ?_; with_reducible repeat' (first | exact True.intro | refine Lf.mk ?_ ?_ | intro hb)
        exact Nxt ((ai @eSch_eta @en)) (lx + 1) (⟨by omega, ball_take hlt hI.2 ⟨hf, hr⟩⟩) (by first | omega | (simp; omega))
      · have gr := eq_false hr
        have e : decide (SchOk s) = false := decide_eq_false fun h => hr (h.1 _ (List.getElem_mem hlt)).2
        refine Run ((ai @gr @e)) ?_; with_reducible repeat' (first | exact True.intro | refine Lf.mk ?_ ?_ | intro hb)
    · have gf := eq_false hf
      have e : decide (SchOk s) = false := decide_eq_false fun h => hf (h.1 _ (List.getElem_mem hlt)).1
      refine Run ((ai @gf @e)) ?_; with_reducible repeat' (first | exact True.intro | refine Lf.mk ?_ ?_ | intro hb)
  · obtain rfl : lx = s.length := by omega
    have hall := ball_end (Nat.le_refl _) hI.2
    have et : (s.map Decl.name).take s.length = s.map Decl.name := List.take_of_length_le (by rw [List.length_map]; omega)
    by_cases h4 : (s.length : Int) ≤ 4
    · have g4 := eq_true h4
      have ha := specAsc_ok (s.map Decl.name) (by rw [List.length_map]; omega)
      have hsl : slT eS (s.map Decl.name) = .c (.im (.sl s.length ((s.map Decl.name).flatMap eS))) := by show TV.c (Cell.im (IV.sl (s.map Decl.name).length _)) = _; rw [List.length_map]
      rw [hsl] at ha
      have e : decide (AscS (s.map Decl.name)) = decide (SchOk s) := decide_eq_decide.2 ⟨fun h => ⟨hall, h, by omega⟩, fun h => h.2.1⟩
      refine Run ((ai (ai @eSch_eta @hlt) (ai @et @g4))) ?_; with_reducible repeat' (first | exact True.intro | refine Lf.mk ?_ ?_ | intro hb)
      refine Cal (cast_succ) (ha) ?_
      refine Run (@e) ?_; with_reducible repeat' (first | exact True.intro | refine Lf.mk ?_ ?_ | intro hb)
    · have g4 := eq_false h4
      have e : decide (SchOk s) = false := decide_eq_false fun h => by have := h.2.2; omega
      refine Run ((ai (ai @eSch_eta @hlt) (ai @et (ai @g4 @e)))) ?_; with_reducible repeat' (first | exact True.intro | refine Lf.mk ?_ ?_ | intro hb)
def fc35A68 := (ai (ai (ai (ai (ai sz3 ag3) (ai zv3 (ai un3 sz4))) (ai (ai ag4 zv4) (ai un4 (ai sz9 ag9)))) (ai (ai (ai zv9 un9) (ai sz37 (ai ag37 zv37))) (ai (ai sb37 un37) (ai el37 (ai ap37 sz39))))) (ai (ai (ai (ai ag39 zv39) (ai fl39_0 (ai pl39 sz43))) (ai (ai ag43 zv43) (ai fl43_0 (ai fl43_1 fl43_2)))) (ai (ai (ai pl43 sz97) (ai ag97 (ai zv97 fl97_0))) (ai (ai fl97_1 (ai pl97 okf72)) (ai okf73 (ai sz25 sz41))))))
theorem implSch_ok (s : List Decl) (h : okSch (2^20) s) (hz : zSch s ≤ 2^20) : FnS Tryz.prog 35 [] [agT (eSch s)] [] (bT (decide (SchOk s))) := by
  refine FnS.go [0, 1, 2, 3, 4, 6, 7, 8, 9, 38] [] Tryz.func35 rfl (fun kt kz => ?_)
  have fcx := fc35A68
  simp only [Tryz.f35]
  have ho := okSch_iff.1 h
  have hln := ho.1
  refine Run (@eSch_eta) ?_; with_reducible repeat' (first | exact True.intro | refine Lf.mk ?_ ?_ | intro hb)
  refine Trn (α := Nat) [2, 3, 4, 8, 9, 10, 11, 12, 13, 14, 15, 16, 17, 18, 19, 20, 21, 22, 23, 24, 25, 26, 27, 28, 29, 30, 31, 32, 33, 34, 35, 36, 37, 38, 39] (fun i => [(8, iT i)]) (fun i => [(2, .box 39 ((eSch s).map .im))]) (fun i => i ≤ s.length ∧ (∀ d ∈ s.take i, NameOk d.name ∧ RowOk' d.row) ∧ ∀ j, (h : j + 1 < s.length) → j + 1 < i → sLt (s[j]'(by omega)).name s[j + 1].name = true) (fun i => s.length - i) (0) (⟨Nat.zero_le _, fun s hs => by simp at hs, fun j h hj => by omega⟩) (@eSch_eta) ?_; intro lx hI; obtain i := lx; (try simp only [List.nil_append, List.cons_append] at hI ⊢)
  by_cases hlt : lx < s.length
  · have hod := okDecl_iff.1 (ho.2 _ (List.getElem_mem hlt))
    have hzd := zSch_row (List.getElem_mem hlt)
    have hn : s[lx].name.size ≤ 2^20 := hod.1
    by_cases hf : NameOk s[lx].name
    · have gf := eq_true hf
      by_cases hr : RowOk' s[lx].row
      · have gr := eq_true hr
        have hstep : (0 < lx → sLt (s[lx - 1]'(by omega)).name s[lx].name = true) → ∀ j, (h : j + 1 < s.length) → j + 1 < lx + 1 → sLt (s[j]'(by omega)).name s[j + 1].name = true := fun h2 j hj hji => by
          by_cases e : j + 1 < lx
          · exact hI.2.2 j hj e
          · have e : lx = j + 1 := by omega
            subst e
            exact h2 (by omega)
        by_cases hz0 : 0 < lx
        · have hzi : (0 : Int) < (lx : Int) := by omega
          have hl1 : lx - 1 < s.length := by omega
          refine Run ((ai @eSch_eta (ai @eDecl_eta @hlt))) ?_; with_reducible repeat' (first | exact True.intro | refine Lf.mk ?_ ?_ | intro hb)
          refine Cal ((ai @eSch_eta @eDecl_eta)) (implName_ok s[lx].name (by omega)) ?_
          refine Run ((ai (ai @eSch_eta @eDecl_eta) (ai @hlt @gf))) ?_; with_reducible repeat' (first | exact True.intro | refine Lf.mk ?_ ?_ | intro hb)
          refine Cal ((ai @eSch_eta (ai @eDecl_eta @eTy_eta))) (implRow_ok s[lx].row hod.2 (by omega)) ?_
          by_cases hc : sLt s[lx - 1].name s[lx].name = true
          · refine Run ((ai (ai @eSch_eta (ai @eDecl_eta @gr)) (ai @hzi (ai @hl1 @hc)))) ?_; with_reducible repeat' (first | exact True.intro | refine Lf.mk ?_ ?_ | intro hb)
            exact Nxt (@eSch_eta) (lx + 1) (⟨by omega, ball_take hlt hI.2.1 ⟨hf, hr⟩, hstep fun _ => hc⟩) (by first | omega | (simp; omega))
          · have hcf : sLt s[lx - 1].name s[lx].name = false := by simpa using hc
            have e : decide (SchOk s) = false := decide_eq_false fun h => by
              have := h.2.1 (lx - 1) (by rw [List.length_map]; omega)
              simp only [List.getElem_map] at this
              have e2 : lx - 1 + 1 = lx := by omega
              simp only [e2] at this
              rw [hcf] at this; cases this
            refine Run ((ai (ai @eSch_eta (ai @eDecl_eta @gr)) (ai (ai @hzi @hl1) (ai @hcf @e)))) ?_; with_reducible repeat' (first | exact True.intro | refine Lf.mk ?_ ?_ | intro hb)
        · have hzi : ¬ (0 : Int) < (lx : Int) := by omega
          refine Run ((ai @eSch_eta (ai @eDecl_eta @hlt))) ?_; with_reducible repeat' (first | exact True.intro | refine Lf.mk ?_ ?_ | intro hb)
          refine Cal ((ai @eSch_eta @eDecl_eta)) (implName_ok s[lx].name (by omega)) ?_
          refine Run ((ai (ai @eSch_eta @eDecl_eta) (ai @hlt @gf))) ?_; with_reducible repeat' (first | exact True.intro | refine Lf.mk ?_ ?_ | intro hb)
          refine Cal ((ai @eSch_eta (ai @eDecl_eta @eTy_eta))) (implRow_ok s[lx].row hod.2 (by omega)) ?_
          refine Run ((ai (ai @eSch_eta @eDecl_eta) (ai @gr @hzi))) ?_; with_reducible repeat' (first | exact True.intro | refine Lf.mk ?_ ?_ | intro hb)
          exact Nxt (@eSch_eta) (lx + 1) (⟨by omega, ball_take hlt hI.2.1 ⟨hf, hr⟩, hstep fun h => absurd h hz0⟩) (by first | omega | (simp; omega))
      · have gr := eq_false hr
        have e : decide (SchOk s) = false := decide_eq_false fun h => hr (h.1 _ (List.getElem_mem hlt)).2
        refine Run ((ai @eSch_eta (ai @eDecl_eta @hlt))) ?_; with_reducible repeat' (first | exact True.intro | refine Lf.mk ?_ ?_ | intro hb)
        refine Cal ((ai @eSch_eta @eDecl_eta)) (implName_ok s[lx].name (by omega)) ?_
        refine Run ((ai (ai @eSch_eta @eDecl_eta) (ai @hlt @gf))) ?_; with_reducible repeat' (first | exact True.intro | refine Lf.mk ?_ ?_ | intro hb)
        refine Cal ((ai @eSch_eta (ai @eDecl_eta @eTy_eta))) (implRow_ok s[lx].row hod.2 (by omega)) ?_
        refine Run ((ai @gr @e)) ?_; with_reducible repeat' (first | exact True.intro | refine Lf.mk ?_ ?_ | intro hb)
    · have gf := eq_false hf
      have e : decide (SchOk s) = false := decide_eq_false fun h => hf (h.1 _ (List.getElem_mem hlt)).1
      refine Run ((ai @eSch_eta (ai @eDecl_eta @hlt))) ?_; with_reducible repeat' (first | exact True.intro | refine Lf.mk ?_ ?_ | intro hb)
      refine Cal ((ai @eSch_eta @eDecl_eta)) (implName_ok s[lx].name (by omega)) ?_
      refine Run ((ai @gf @e)) ?_; with_reducible repeat' (first | exact True.intro | refine Lf.mk ?_ ?_ | intro hb)
  · have e : decide ((s.length : Int) ≤ 4) = decide (SchOk s) := decide_eq_decide.2 ⟨fun h => ⟨ball_end (by omega) hI.2.1, fun j hj => by
      rw [List.length_map] at hj
      simp only [List.getElem_map]
      exact hI.2.2 j hj (by omega), by omega⟩, fun h => by have := h.2.2; omega⟩
    refine Run ((ai @eSch_eta (ai @hlt @e))) ?_; with_reducible repeat' (first | exact True.intro | refine Lf.mk ?_ ?_ | intro hb)

end Go.VC.T
/- Terms of a right form; what types terms have: plain definitions. -/
namespace Go.VC
open Go
def bs (l : List UInt8) : ByteArray := ⟨l.toArray⟩
def opPlus : ByteArray := ⟨#[43]⟩
def opMinus : ByteArray := ⟨#[45]⟩
def opEq : ByteArray := ⟨#[61]⟩
def opLt : ByteArray := ⟨#[60]⟩
def opAnd : ByteArray := ⟨#[38]⟩
def opOr : ByteArray := ⟨#[124]⟩
def opNot : ByteArray := ⟨#[33]⟩
/-- How many arguments an operation has. -/
noncomputable def opAr (s : ByteArray) : Nat := if s = opPlus ∨ s = opMinus ∨ s = opEq ∨ s = opLt ∨ s = opAnd ∨ s = opOr then 2 else if s = opNot then 1 else 0
/-- How many arguments a node has; whether it is named, typed. -/
noncomputable def arK (e : Tm) : Option Nat := if e.kind = 1 ∨ e.kind = 2 ∨ e.kind = 3 ∨ e.kind = 7 ∨ e.kind = 12 then some 0 else if e.kind = 4 then (if opAr e.name = 0 then none else some (opAr e.name)) else if e.kind = 5 then (if LabsOk e.labels then some e.labels.length else none)
  else if e.kind = 6 ∨ e.kind = 8 ∨ e.kind = 13 ∨ e.kind = 15 ∨ e.kind = 16 then some 1 else if e.kind = 9 ∨ e.kind = 10 ∨ e.kind = 14 then some 2 else if e.kind = 11 then some 3 else none
def nmK (k : Int) : Prop := k = 1 ∨ k = 6 ∨ k = 10 ∨ k = 12 ∨ k = 13
instance (k : Int) : Decidable (nmK k) := by unfold nmK; infer_instance
def tyK (k : Int) : Prop := k = 7 ∨ k = 13
instance (k : Int) : Decidable (tyK k) := by unfold tyK; infer_instance
def mostK (k : Int) : Int := if k = 2 then 999 else if k = 3 then 1 else 0
def zeroTy (t : Ty) : Prop := t.kind = 0 ∧ t.labels.length = 0 ∧ t.args.length = 0
noncomputable instance (t : Ty) : Decidable (zeroTy t) := Classical.propDecidable _
def NdNm (e : Tm) : Prop := if nmK e.kind then NameOk e.name else (e.kind = 4 ∨ e.name = ⟨#[]⟩)
def NdTy (e : Tm) : Prop := if tyK e.kind then TyOk e.ty else zeroTy e.ty
def NdOk (e : Tm) : Prop := arK e = some e.args.length ∧ (¬ e.kind = 5 → e.labels.length = 0) ∧ (0 ≤ e.n ∧ e.n ≤ mostK e.kind) ∧ NdNm e ∧ NdTy e
noncomputable instance (e : Tm) : Decidable (NdNm e) := Classical.propDecidable _
noncomputable instance (e : Tm) : Decidable (NdTy e) := Classical.propDecidable _
noncomputable instance (e : Tm) : Decidable (NdOk e) := Classical.propDecidable _
mutual
def TmF : Tm → Prop
  | .mk k s n t l ws => NdOk (.mk k s n t l ws) ∧ TmFL ws
def TmFL : List Tm → Prop
  | [] => True
  | a :: r => TmF a ∧ TmFL r
end
theorem TmFL_iff : ∀ {l : List Tm}, TmFL l ↔ ∀ a ∈ l, TmF a
  | [] => by simp [TmFL]
  | a :: r => by rw [TmFL, TmFL_iff (l := r)]; simp
theorem TmF_eta (v : Tm) : TmF v ↔ NdOk v ∧ ∀ a ∈ v.args, TmF a := by
  cases v with
  | mk k s n t l ws => rw [TmF, TmFL_iff]; rfl
noncomputable instance (v : Tm) : Decidable (TmF v) := Classical.propDecidable _
mutual
/-- Terms that a normal query may have; 'f': it stands directly in a field. -/
def BsT (f : Bool) : Tm → Prop
  | .mk k _ _ _ _ ws => (k = 1 ∧ f = true) ∨ (¬ k = 1 ∧ ¬ k = 13 ∧ ¬ k = 14 ∧ (k = 10 → ∃ h : 0 < ws.length, ws[0].kind = 12) ∧ BsTL (decide (k = 6)) ws)
def BsTL (f : Bool) : List Tm → Prop
  | [] => True
  | a :: r => BsT f a ∧ BsTL f r
end
theorem BsTL_iff {f : Bool} : ∀ {l : List Tm}, BsTL f l ↔ ∀ a ∈ l, BsT f a
  | [] => by simp [BsTL]
  | a :: r => by rw [BsTL, BsTL_iff (l := r)]; simp
theorem BsT_eta (f : Bool) (v : Tm) : BsT f v ↔ (v.kind = 1 ∧ f = true) ∨ (¬ v.kind = 1 ∧ ¬ v.kind = 13 ∧ ¬ v.kind = 14 ∧ (v.kind = 10 → ∃ h : 0 < v.args.length, v.args[0].kind = 12) ∧ ∀ a ∈ v.args, BsT (decide (v.kind = 6)) a) := by
  cases v with
  | mk k s n t l ws => rw [BsT, BsTL_iff]; rfl
noncomputable instance (f : Bool) (v : Tm) : Decidable (BsT f v) := Classical.propDecidable _

mutual
def msz : Tm → Nat
  | .mk _ _ _ _ _ ws => 1 + mszL ws
def mszL : List Tm → Nat
  | [] => 0
  | a :: r => msz a + mszL r
end
theorem msz_arg {v a : Tm} (h : a ∈ v.args) : msz a < msz v := by
  cases v with
  | mk k s n t l ws =>
    have : ∀ {l : List Tm}, a ∈ l → msz a ≤ mszL l := fun {l} hl => by
      induction l with
      | nil => cases hl
      | cons b r ih =>
        rw [mszL]
        rcases List.mem_cons.1 hl with rfl | hl
        · omega
        · have := ih hl; omega
    have := this (show a ∈ ws from h)
    rw [msz]; omega
def tInt : Ty := .mk 1 [] []
def tBool : Ty := .mk 2 [] []
def tBag (t : Ty) : Ty := .mk 4 [] [t]
def tFun (a b : Ty) : Ty := .mk 5 [] [a, b]
def tRec (l : List ByteArray) (a : List Ty) : Ty := .mk 3 l a
/-- The row type of a table; the last type of a name. -/
noncomputable def rowT (s : List Decl) (name : ByteArray) : Option Ty := (s.find? fun d => decide (d.name = name)).map Decl.row
noncomputable def lookT (ctx : List Decl) (name : ByteArray) : Option Ty := (ctx.reverse.find? fun d => decide (d.name = name)).map Decl.row
noncomputable instance (a b : Ty) : Decidable (a = b) := Classical.propDecidable _
/-- The type of an operation. -/
noncomputable def opT (s : ByteArray) (t : List Ty) : Option Ty := if (t.all fun a => decide (a.kind = if s = opAnd ∨ s = opOr ∨ s = opNot then 2 else 1)) = true then some (if s = opPlus ∨ s = opMinus then tInt else tBool) else none
/-- The type of a field. -/
noncomputable def fieldT (t : Ty) (l : ByteArray) : Option Ty := if TyOk t ∧ t.kind = 3 ∧ 0 ≤ idxI (fun x => decide (x = l)) t.labels then t.args[(idxI (fun x => decide (x = l)) t.labels).toNat]? else none
/-- The type of a form that binds nothing, by those of its arguments. -/
noncomputable def plainT (e : Tm) (t : List Ty) : Option Ty :=
  if e.kind = 4 then opT e.name t else if e.kind = 5 then some (tRec e.labels t) else match t with
  | [a] => if e.kind = 6 then fieldT a e.name else if e.kind = 8 then some (tBag a) else if e.kind = 15 then (if a.kind = 4 then some tBool else none) else if e.kind = 16 then (if a.kind = 4 then some tInt else none) else none
  | [a, b] => if e.kind = 9 then (if a.kind = 4 ∧ a = b then some a else none) else if e.kind = 14 then (match a.args with | [x, y] => if a.kind = 5 ∧ x = b then some y else none | _ => none) else none
  | [a, b, c] => if e.kind = 11 then (if a.kind = 2 ∧ b = c then some b else none) else none
  | _ => none
noncomputable def okT (o : Option Ty) : Option Ty := o.bind fun t => if TyOk t then some t else none
noncomputable def allT : List (Option Ty) → Option (List Ty)
  | [] => some []
  | o :: r => o.bind fun t => (allT r).map (t :: ·)
/-- The type of a term, before it is asked whether it is a right one; 'n' bounds the term's size. -/
noncomputable def tyN (s : List Decl) : Nat → List Decl → Tm → Option Ty
  | 0, _, _ => none
  | n + 1, ctx, e =>
    if e.kind = 1 then lookT ctx e.name else if e.kind = 2 then some tInt else if e.kind = 3 then some tBool else if e.kind = 12 then (rowT s e.name).map tBag else if e.kind = 7 then some (tBag e.ty)
    else if e.kind = 10 then (match e.args with
      | [a, b] => (okT (tyN s n ctx a)).bind fun t => match t.args with
        | [x] => if t.kind = 4 then (okT (tyN s n (ctx ++ [⟨e.name, x⟩]) b)).bind fun u => if u.kind = 4 then some u else none else none
        | _ => none
      | _ => none)
    else if e.kind = 13 then (match e.args with
      | [a] => (okT (tyN s n (ctx ++ [⟨e.name, e.ty⟩]) a)).map fun t => tFun e.ty t
      | _ => none)
    else (allT (e.args.map fun a => okT (tyN s n ctx a))).bind fun l => plainT e l
noncomputable def tyO (s : List Decl) (n : Nat) (ctx : List Decl) (e : Tm) : Option Ty := okT (tyN s n ctx e)
end Go.VC
/- Types: equality on both sides; right types are small. -/
namespace Go.VC
open Go
theorem name_ok {s : ByteArray} (h : NameOk s) : s.size ≤ 4 := h.2.1.2
theorem labs_ok {l : List ByteArray} (h : LabsOk l) : okLs (2^20) okS l := ⟨by have := h.2.1.2; omega, fun s hs => by have := name_ok (h.1 s hs); show s.size ≤ 2^20; omega⟩
theorem labs_z {l : List ByteArray} (h : LabsOk l) : zSL l ≤ 20 := by
  have h1 : ∀ m : List ByteArray, (∀ s ∈ m, NameOk s) → zSL m ≤ 5 * m.length := fun m => by
    induction m with
    | nil => intro _; decide
    | cons a r ih =>
      intro h
      have := ih fun s hs => h s (List.mem_cons_of_mem _ hs)
      have h4 := name_ok (h a List.mem_cons_self)
      unfold zSL zL at *
      rw [List.map_cons, List.sum_cons, List.length_cons]
      have : zS a = a.size := rfl
      omega
  have := h1 l h.1
  have := h.2.1.2
  omega
theorem thd_labs {v : Ty} (h : THd v) : v.labels = [] ∨ LabsOk v.labels := by
  unfold THd at h
  rcases h with h | h | h | h
  · exact .inr h.2.2.1
  · exact .inl (List.length_eq_zero_iff.1 h.2.2.1)
  · exact .inl (List.length_eq_zero_iff.1 h.2.1)
  · exact .inl (List.length_eq_zero_iff.1 h.2.1)
theorem thd_args {v : Ty} (h : THd v) : v.args.length ≤ 4 := by
  unfold THd at h
  rcases h with h | h | h | h
  · have := h.2.2.1.2.1.2; omega
  all_goals omega
theorem thd_kind {v : Ty} (h : THd v) : 1 ≤ v.kind ∧ v.kind ≤ 5 := by
  unfold THd at h; omega
theorem tf_ok (v : Ty) (h : TF v) : okTy (2^20) v := by
  have ⟨hd, ha⟩ := (TF_eta v).1 h
  have hk := thd_kind hd
  refine okTy_iff.2 ⟨⟨by omega, by omega⟩, ?_, ⟨by have := thd_args hd; omega, fun a hm => tf_ok a (ha a hm)⟩⟩
  rcases thd_labs hd with h | h
  · rw [h]; exact ⟨by simp, by simp⟩
  · exact labs_ok h
termination_by SizeOf.sizeOf v
decreasing_by exact Ty.mem hm
theorem tf_z (v : Ty) (h : TF v) : zTy v ≤ 24 * tsz v := by
  have ⟨hd, ha⟩ := (TF_eta v).1 h
  have hn := thd_args hd
  have H : ∀ a ∈ v.args, zTy a ≤ 24 * tsz a := fun a hm => tf_z a (ha a hm)
  have hs : ∀ l : List Ty, (∀ a ∈ l, zTy a ≤ 24 * tsz a) → (l.map zTy).sum ≤ 24 * (l.map tsz).sum := fun l => by
    induction l with
    | nil => intro _; simp
    | cons a r ih =>
      intro h
      have h1 := ih fun s hs => h s (List.mem_cons_of_mem _ hs)
      have h2 := h a List.mem_cons_self
      rw [List.map_cons, List.sum_cons, List.map_cons, List.sum_cons]
      omega
  have h1 := hs v.args H
  rw [zTy_eta, tsz_eta]
  unfold tszT
  rw [List.take_length]
  have h2 : zSL v.labels ≤ 20 := by
    rcases thd_labs hd with h | h
    · rw [h]; decide
    · exact labs_z h
  show zSL v.labels + zL zTy v.args ≤ _
  unfold zL
  omega
termination_by SizeOf.sizeOf v
decreasing_by exact Ty.mem hm
theorem TyOk.ok {v : Ty} (h : TyOk v) : okTy (2^20) v := tf_ok v h.2.2
theorem TyOk.z {v : Ty} (h : TyOk v) : zTy v ≤ 600 := by have := tf_z v h.2.2; have := h.1; omega
theorem TyOk.hd {v : Ty} (h : TyOk v) : THd v := ((TF_eta v).1 h.2.2).1
theorem TyOk.bag {v : Ty} (h : TyOk v) (k : v.kind = 4) : v.labels = [] ∧ v.args.length = 1 := by
  have := h.hd
  unfold THd at this
  have h1 : v.labels.length = 0 ∧ v.args.length = 1 := by omega
  exact ⟨List.length_eq_zero_iff.1 h1.1, h1.2⟩
theorem TyOk.fn {v : Ty} (h : TyOk v) (k : v.kind = 5) : v.labels = [] ∧ v.args.length = 2 := by
  have := h.hd
  unfold THd at this
  have h1 : v.labels.length = 0 ∧ v.args.length = 2 := by omega
  exact ⟨List.length_eq_zero_iff.1 h1.1, h1.2⟩
theorem TyOk.rec {v : Ty} (h : TyOk v) (k : v.kind = 3) : LabsOk v.labels ∧ v.args.length = v.labels.length := by
  have := h.hd
  unfold THd at this
  rcases this with h | h | h | h
  · exact ⟨h.2.2.1, h.2.1⟩
  all_goals (exfalso; omega)
theorem TyOk.arg {v a : Ty} (h : TyOk v) (ha : a ∈ v.args) : TF a := ((TF_eta v).1 h.2.2).2 a ha
end Go.VC
namespace Go.VC.T
open Go Go.VC Go.Proofs Go.VC.F
theorem implEqTy_ok (t u : Ty) (ht : okTy (2^20) t) (hu : okTy (2^20) u) : FnP Tryz.prog 131 [agT (eTy t), agT (eTy u)] (bT (decide (t = u))) := implEqTy_of t u ht hu (slEqTy_ok _ (by decide +kernel) _ _ (okTy_iff.1 ht).2.2.1 (okTy_iff.1 hu).2.2.1 (fun x hx y hy => implEqTy_ok x y ((okTy_iff.1 ht).2.2.2 x hx) ((okTy_iff.1 hu).2.2.2 y hy)))
termination_by SizeOf.sizeOf t
decreasing_by exact Ty.mem hx
def fc68A77 := (ai (ai (ai (ai sz3 (ai ag3 zv3)) (ai (ai un3 sz4) (ai ag4 zv4))) (ai (ai (ai un4 sz25) (ai ag25 zv25)) (ai (ai sb25 un25) (ai el25 ap25)))) (ai (ai (ai (ai sz41 ag41) (ai zv41 sb41)) (ai (ai un41 el41) (ai ap41 sz43))) (ai (ai (ai ag43 zv43) (ai fl43_0 fl43_1)) (ai (ai fl43_2 pl43) (ai okf68 okf91)))))
theorem specEqTy_of (t u : Ty) (ht : okTy (2^20) t) (hu : okTy (2^20) u) (H : ∀ x ∈ t.args, ∀ y ∈ u.args, FnP Tryz.prog 68 [agT (eTy x), agT (eTy y)] (bT (decide (x = y)))) : FnS Tryz.prog 68 [] [agT (eTy t), agT (eTy u)] [] (bT (decide (t = u))) := by
  refine FnS.go [0, 1, 2, 3, 4, 5, 27, 32, 46] [] Tryz.func68 rfl (fun kt kz => ?_)
  have fcx := fc68A77
  simp only [Tryz.f68]
  have ho := okTy_iff.1 ht
  have hp := okTy_iff.1 hu
  have hln := ho.2.2.1
  have hno : ¬ t = u → decide (t = u) = false := decide_eq_false
  by_cases hk : t.kind = u.kind
  · have gk := eq_true hk
    by_cases hs : t.labels = u.labels
    · have gs := eq_true hs
      by_cases hn : (t.args.length : Int) = (u.args.length : Int)
      · have gn := eq_true hn
        refine Run ((ai @eTy_eta @gk)) ?_; with_reducible repeat' (first | exact True.intro | refine Lf.mk ?_ ?_ | intro hb)
        refine Cal (@eTy_eta) (l3Texts_ok _ _ ho.2.1.1 hp.2.1.1) ?_
        refine Run ((ai (ai @eTy_eta @gk) (ai @gs @gn))) ?_; with_reducible repeat' (first | exact True.intro | refine Lf.mk ?_ ?_ | intro hb)
        refine Trn (α := Nat) [4, 5, 28, 29, 30, 31, 32, 33, 34, 35, 36, 37, 38, 39, 40, 41, 42, 43, 44, 45, 46] (fun i => [(5, iT i)]) (fun i => [(4, .box 43 ((eTy t).map .im)), (6, .box 43 ((eTy u).map .im))]) (fun i => i ≤ t.args.length ∧ t.args.take i = u.args.take i) (fun i => t.args.length - i) (0) (⟨Nat.zero_le _, rfl⟩) (@eTy_eta) ?_; intro lx hI; obtain i := lx; (try simp only [List.nil_append, List.cons_append] at hI ⊢)
        by_cases hlt : lx < t.args.length
        · have hlt2 : lx < u.args.length := by omega
          refine Run ((ai @eTy_eta (ai @hlt @hlt2))) ?_; with_reducible repeat' (first | exact True.intro | refine Lf.mk ?_ ?_ | intro hb)
          refine Cal (@eTy_eta) (H _ (List.getElem_mem hlt) _ (List.getElem_mem hlt2)) ?_
          by_cases he : t.args[lx] = u.args[lx]
          · have ge := eq_true he
            refine Run (@ge) ?_; with_reducible repeat' (first | exact True.intro | refine Lf.mk ?_ ?_ | intro hb)
            exact Nxt (@eTy_eta) (lx + 1) (⟨by omega, take_eq_at hI.2 hlt hlt2 he⟩) (by first | omega | (simp; omega))
          · have ge := eq_false he
            have e := hno fun h => he (by subst h; rfl)
            refine Run ((ai @ge @e)) ?_; with_reducible repeat' (first | exact True.intro | refine Lf.mk ?_ ?_ | intro hb)
        · have e : decide (t = u) = true := decide_eq_true (Ty.ext hk hs (take_all hI.2 (by omega) (by omega)))
          refine Run ((ai @eTy_eta (ai @hlt @e))) ?_; with_reducible repeat' (first | exact True.intro | refine Lf.mk ?_ ?_ | intro hb)
      · have gn := eq_false hn
        have e := hno fun h => hn (by subst h; rfl)
        refine Run ((ai @eTy_eta @gk)) ?_; with_reducible repeat' (first | exact True.intro | refine Lf.mk ?_ ?_ | intro hb)
        refine Cal (@eTy_eta) (l3Texts_ok _ _ ho.2.1.1 hp.2.1.1) ?_
        refine Run ((ai (ai @eTy_eta @gk) (ai @gs (ai @gn @e)))) ?_; with_reducible repeat' (first | exact True.intro | refine Lf.mk ?_ ?_ | intro hb)
    · have gs := eq_false hs
      have e := hno fun h => hs (by subst h; rfl)
      refine Run ((ai @eTy_eta @gk)) ?_; with_reducible repeat' (first | exact True.intro | refine Lf.mk ?_ ?_ | intro hb)
      refine Cal (@eTy_eta) (l3Texts_ok _ _ ho.2.1.1 hp.2.1.1) ?_
      refine Run ((ai (ai @eTy_eta @gk) (ai @gs @e))) ?_; with_reducible repeat' (first | exact True.intro | refine Lf.mk ?_ ?_ | intro hb)
  · have gk := eq_false hk
    have e := hno fun h => hk (by subst h; rfl)
    refine Run ((ai @eTy_eta (ai @gk @e))) ?_; with_reducible repeat' (first | exact True.intro | refine Lf.mk ?_ ?_ | intro hb)

theorem specEqTy_ok (t u : Ty) (ht : okTy (2^20) t) (hu : okTy (2^20) u) : FnP Tryz.prog 68 [agT (eTy t), agT (eTy u)] (bT (decide (t = u))) := specEqTy_of t u ht hu (fun x hx y hy => specEqTy_ok x y ((okTy_iff.1 ht).2.2.2 x hx) ((okTy_iff.1 hu).2.2.2 y hy))
termination_by SizeOf.sizeOf t
decreasing_by exact Ty.mem hx
end Go.VC.T
/- Data (Value): how they are measured, copied and compared. -/
namespace Go.VC.T
open Go Go.VC Go.Proofs Go.VC.F






end Go.VC.T
/- Data (TableData): how they are measured, copied and compared. -/
namespace Go.VC.T
open Go Go.VC Go.Proofs Go.VC.F






end Go.VC.T
/- Data (DB): how they are measured, copied and compared. -/
namespace Go.VC.T
open Go Go.VC Go.Proofs Go.VC.F





end Go.VC.T
/- Rows of a table; copies of values. -/
namespace Go.VC
open Go
/-- The rows of a table; none without it. -/
def rowsD (db : List TData) (s : ByteArray) : List Val := match db.find? (fun t => decide (t.name = s)) with
  | some t => t.rows
  | none => []
end Go.VC
namespace Go.VC.T
open Go Go.VC Go.Proofs Go.VC.F

end Go.VC.T
/- The last element of a slice with a name: a loop over slices.Backward, at the machine's level (after the kit's worked proof of slices.All and its callers). -/
namespace Go.Proofs
open Go.RowKit Go.Shelf
attribute [local go_sem] Oper.semAt_some
abbrev Sv := Option Addr × Nat × Nat
abbrev Dv := ByteArray × Int × Sv × Sv
def dvE (x : Dv) : Value := .agg #[.string x.1, .int .i64 x.2.1, .slice x.2.2.1.1 x.2.2.1.2.1 x.2.2.1.2.2, .slice x.2.2.2.1 x.2.2.2.2.1 x.2.2.2.2.2]
def dvD : Dv := (⟨#[]⟩, 0, (none, 0, 0), (none, 0, 0))
/-- What has come when all but the first k are over: the last one first. -/
def dnto (zs : List Dv) (k : Nat) : List (Nat × Dv) := ((List.range (zs.length - k)).map fun j => (zs.length - 1 - j, zs[zs.length - 1 - j]?.getD dvD))
theorem dnto_step (zs : List Dv) (k : Nat) (h : k < zs.length) : dnto zs k = dnto zs (k + 1) ++ [(k, zs[k]?.getD dvD)] := by
  unfold dnto
  rw [show zs.length - k = (zs.length - (k + 1)) + 1 by omega, List.range_succ, List.map_append]
  simp only [List.map_cons, List.map_nil]
  rw [show zs.length - 1 - (zs.length - (k + 1)) = k by omega]
theorem dnto_len (zs : List Dv) (k : Nat) : (dnto zs k).length = zs.length - k := by simp [dnto]
set_option maxRecDepth 100000 in
set_option maxHeartbeats 2000000 in
theorem Tryz.back1_in (F : Fence) (n : Nat) (h7 : F.fn 133) (hro : F.round = none) (hn : 1 ≤ n) (l Bs n₀ b off len cap : Nat) (zs : List Dv) (hlen : zs.length = len) (hreach : len * 64 ≤ 140737488351232) (hb : b < n₀) (hB : Bs < n₀) (J Jx : List (Nat × Dv) → World → Prop)
    (hY : ∀ pre x W, J pre W → pre.length < len → YieldAt F (n - 1) Tryz.prog l #[.int .i64 (x.1 : Int), dvE x.2] W fun e W' =>
      (e = .returned (.bool true) ∧ J (pre ++ [x]) W' ∧ Below n₀ W W') ∨ (e = .returned (.bool false) ∧ Jx (pre ++ [x]) W'))
    (W : World) (hBs : W.cell? ⟨Bs, 0, none⟩ = some (.slice (some ⟨b, off, none⟩) len cap)) (hc0 : ∀ j, j < len → W.cell? ⟨b, off + j * 4, none⟩ = some (.string (zs[j]?.getD dvD).1)) (hc1 : ∀ j, j < len → W.cell? ⟨b, off + j * 4 + 1, none⟩ = some (.int .i64 (zs[j]?.getD dvD).2.1)) (hc2 : ∀ j, j < len → W.cell? ⟨b, off + j * 4 + 2, none⟩ = some (.slice (zs[j]?.getD dvD).2.2.1.1 (zs[j]?.getD dvD).2.2.1.2.1 (zs[j]?.getD dvD).2.2.1.2.2)) (hc3 : ∀ j, j < len → W.cell? ⟨b, off + j * 4 + 3, none⟩ = some (.slice (zs[j]?.getD dvD).2.2.2.1 (zs[j]?.getD dvD).2.2.2.2.1 (zs[j]?.getD dvD).2.2.2.2.2)) (h0 : J [] W) :
    CallsIn F n Tryz.prog 133 #[.func (.yield l) #[] #[], .pointer (some ⟨Bs, 0, none⟩)] W fun e W' => (∃ v, e = .returned v) ∧
      ((∃ ys, ys = dnto zs 0 ∧ J ys W') ∨ (∃ pre, (∃ k, k < len ∧ pre = dnto zs k) ∧ Jx pre W')) := by
  refine callsIn_of_wp Tryz.func133 rfl h7 ?_ hro
  simp only [Tryz.ntmps133, List.size_toArray, List.length_cons, List.length_nil, Nat.reduceAdd, Nat.reduceSub, Array.replicate_succ, Array.replicate_zero, List.push_toArray, List.append_toArray, List.nil_append, List.cons_append]
  gi_wp2
  gi_loopw [3] (fun i wr => ∃ k : Nat, k ≤ len ∧ i = .int .i64 ((k : Int) - 1) ∧ J (dnto zs k) wr ∧ Below n₀ W wr)
    (fun i _ => (intOf i + 1).toNat)
  case atStart =>
    refine ⟨len, Nat.le_refl _, ?_, ?_, Below.refl _ _⟩
    · rfl
    · have : dnto zs len = [] := by simp [dnto, hlen]
      rw [this]; exact h0
  case round =>
    obtain ⟨k, hk, rfl, hJs, hnx⟩ := hrel
    by_cases hlt : 0 < k
    · obtain ⟨j, rfl⟩ : ∃ j, k = j + 1 := ⟨k - 1, by omega⟩
      have hj : j < len := by omega
      obtain ⟨fn, tmps, assign, body, hy, hR⟩ := hY _ (j, zs[j]?.getD dvD) wr hJs (by rw [dnto_len]; omega)
      dsimp only at hy
      have hjz : j < zs.length := by omega
      have ez : zs[j]?.getD dvD = zs[j] := by simp [hjz]
      rw [ez] at hy
      unfold dvE at hy
      clear ez
      have g0 := (hnx.cell (p := ⟨b, off + j * 4, none⟩) hb).trans (hc0 j hj)
      have g1 := (hnx.cell (p := ⟨b, off + j * 4 + 1, none⟩) hb).trans (hc1 j hj)
      have g2 := (hnx.cell (p := ⟨b, off + j * 4 + 2, none⟩) hb).trans (hc2 j hj)
      have g3 := (hnx.cell (p := ⟨b, off + j * 4 + 3, none⟩) hb).trans (hc3 j hj)
      have gB := (hnx.cell (p := ⟨Bs, 0, none⟩) hB).trans hBs
      gi_wp2
      have ep := dnto_step zs j hjz
      refine hR.mono ?_
      rintro e W3 (⟨rfl, hJ3, hk3⟩ | ⟨rfl, hJx3⟩)
      · gi_wp2
        go_roundw
        case rel => exact ⟨j, by omega, by simp, by rw [ep]; exact hJ3, hnx.trans hk3⟩
        case measure => simp [intOf]
      · gi_wp2
        refine bodyPost_ret (results_none rfl _ _ _) rfl ?_
        exact ⟨⟨_, rfl⟩, .inr ⟨_, ⟨j, hj, ep.symm⟩, hJx3⟩⟩
    · obtain rfl : k = 0 := by omega
      gi_wp2
      go_end0
      exact ⟨⟨_, rfl⟩, .inl ⟨_, rfl, hJs⟩⟩
/-- The slice value sv holds the elements zs, in a block below n₀, or there are none. -/
def DvsIn (n₀ : Nat) (W : World) (sv : Value) (zs : List Dv) : Prop :=
  (∃ a c, sv = .slice a 0 c ∧ zs = []) ∨ ∃ b off cap, sv = .slice (some ⟨b, off, none⟩) zs.length cap ∧ b < n₀ ∧ zs.length * 64 ≤ 140737488351232 ∧
    (∀ j, j < zs.length → W.cell? ⟨b, off + j * 4, none⟩ = some (.string (zs[j]?.getD dvD).1)) ∧ (∀ j, j < zs.length → W.cell? ⟨b, off + j * 4 + 1, none⟩ = some (.int .i64 (zs[j]?.getD dvD).2.1)) ∧ (∀ j, j < zs.length → W.cell? ⟨b, off + j * 4 + 2, none⟩ = some (.slice (zs[j]?.getD dvD).2.2.1.1 (zs[j]?.getD dvD).2.2.1.2.1 (zs[j]?.getD dvD).2.2.1.2.2)) ∧ (∀ j, j < zs.length → W.cell? ⟨b, off + j * 4 + 3, none⟩ = some (.slice (zs[j]?.getD dvD).2.2.2.1 (zs[j]?.getD dvD).2.2.2.2.1 (zs[j]?.getD dvD).2.2.2.2.2))
theorem DvsIn.below {n₀ : Nat} {A B : World} (h : Below n₀ A B) {sv : Value} {zs : List Dv} : DvsIn n₀ A sv zs → DvsIn n₀ B sv zs
  | .inl e => .inl e
  | .inr ⟨b, off, cap, e, hb, hr, h0, h1, h2, h3⟩ => .inr ⟨b, off, cap, e, hb, hr, fun j hj => (h.cell (p := ⟨b, off + j * 4, none⟩) hb).trans (h0 j hj), fun j hj => (h.cell (p := ⟨b, off + j * 4 + 1, none⟩) hb).trans (h1 j hj), fun j hj => (h.cell (p := ⟨b, off + j * 4 + 2, none⟩) hb).trans (h2 j hj), fun j hj => (h.cell (p := ⟨b, off + j * 4 + 3, none⟩) hb).trans (h3 j hj)⟩
theorem DvsIn.mono {n₀ n₁ : Nat} (hn : n₀ ≤ n₁) {A : World} {sv : Value} {zs : List Dv} : DvsIn n₀ A sv zs → DvsIn n₁ A sv zs
  | .inl e => .inl e
  | .inr ⟨b, off, cap, e, hb, h⟩ => .inr ⟨b, off, cap, e, by omega, h⟩
set_option maxRecDepth 100000 in
set_option maxHeartbeats 1000000 in
theorem Tryz.back1_nil_in (F : Fence) (n : Nat) (h7 : F.fn 133) (hro : F.round = none) (l Bs : Nat) (a : Option Addr) (cap : Nat) (J : List (Nat × Dv) → World → Prop) (W : World) (hBs : W.cell? ⟨Bs, 0, none⟩ = some (.slice a 0 cap)) (h0 : J [] W) :
    CallsIn F n Tryz.prog 133 #[.func (.yield l) #[] #[], .pointer (some ⟨Bs, 0, none⟩)] W fun e W' => (∃ v, e = .returned v) ∧ J [] W' := by
  refine callsIn_of_wp Tryz.func133 rfl h7 ?_ hro
  simp only [Tryz.ntmps133, List.size_toArray, List.length_cons, List.length_nil, Nat.reduceAdd, Nat.reduceSub, Array.replicate_succ, Array.replicate_zero, List.push_toArray, List.append_toArray, List.nil_append, List.cons_append]
  gi_wp2
  gi_loopw [3] (fun i wr => i = .int .i64 (-1) ∧ J [] wr) (fun _ _ => 0)
  case atStart => exact ⟨rfl, h0⟩
  case round =>
    obtain ⟨rfl, hJs⟩ := hrel
    gi_wp2
    go_end0
    exact ⟨⟨_, rfl⟩, hJs⟩
set_option maxHeartbeats 1000000 in
theorem Tryz.back_in (F : Fence) (n : Nat) (h6 : F.fn 127) (hro : F.round = none) (a : Option Addr) (len cap : Nat) (w : World) :
    CallsIn F n Tryz.prog 127 #[.slice a len cap] w fun e w' => e = .returned (.func (.func 133) #[] #[.pointer (some ⟨w.heap.size, 0, none⟩)]) ∧ w' = w.alloc (.cells #[.slice a len cap] 70) := by
  refine callsIn_of_wp Tryz.func127 rfl h6 ?_ hro
  simp only [Tryz.ntmps127, List.size_toArray, List.length_cons, List.length_nil, Nat.reduceAdd, Nat.reduceSub, Array.replicate_succ, Array.replicate_zero, List.push_toArray, List.append_toArray, List.nil_append, List.cons_append]
  gi_wp2
  go_ret
  exact ⟨rfl, rfl⟩
theorem Tryz.back_stops (F : Fence) (n : Nat) (h8 : F.fn 133) (hro : F.round = none) (hn : 1 ≤ n) (Bs n₀ : Nat) (sv : Value) (zs : List Dv) (w : World) (hBs : Bs < w.heap.size) (hB : Bs < n₀) (hn₀ : n₀ ≤ w.heap.size)
    (hc : w.cell? ⟨Bs, 0, none⟩ = some sv) (hI : DvsIn n₀ w sv zs) :
    SeqStopsK F n Tryz.prog 133 #[.pointer (some ⟨Bs, 0, none⟩)] (fun x : Nat × Dv => #[Value.int .i64 (x.1 : Int), dvE x.2]) (Below n₀) (fun ys => ys = dnto zs 0)
      (fun pre => ∃ k, k < zs.length ∧ pre = dnto zs k) zs.length w := fun l J Jx W hW _ _ hY h0 => by
  have hc' := (hW.cell (p := ⟨Bs, 0, none⟩) hBs).trans hc
  rcases hI.below (hW.mono hn₀) with ⟨a, c, rfl, rfl⟩ | ⟨b, off, cap, rfl, hb, hr, g0, g1, g2, g3⟩
  · exact (Tryz.back1_nil_in F n h8 hro l Bs a c J W hc' h0).mono fun e W' ⟨he, hj⟩ => ⟨he, .inl ⟨_, rfl, hj⟩⟩
  · exact Tryz.back1_in F n h8 hro hn l Bs n₀ b off zs.length cap zs rfl hr hb hB J Jx hY W hc' g0 g1 g2 g3 h0
end Go.Proofs
/- The last element of a slice with a name: the program's function, at the machine's level. -/
namespace Go.Proofs
open Go.RowKit Go.Shelf
attribute [local go_sem] Oper.semAt_some
theorem strEq_of {a b : ByteArray} (h : (a.toList == b.toList) = true) : a = b := by
  have h := eq_of_beq h
  rw [ByteArray.toList_eq, ByteArray.toList_eq] at h
  cases a; cases b
  simp only [ByteArray.mk.injEq] at *
  exact Array.toList_inj.1 h
theorem strNe_of {a b : ByteArray} (h : (a.toList == b.toList) = false) : a ≠ b := fun e => by rw [e] at h; simp at h
theorem cellAt {w : World} {g o : Nat} {vs : Array Value} {t : TypeId} {fr : Nat × Nat} (h : w.heap[g]? = some (.cells vs t fr)) : w.cell? ⟨g, o, none⟩ = vs[o]? := by simp [World.cell?, h]
theorem set4 (W : World) (p : Nat) (v0 v1 v2 u : Value) (h0 : (W.cell? ⟨p, 0, none⟩).isSome = true) (h1 : (W.cell? ⟨p, 1, none⟩).isSome = true) (h2 : (W.cell? ⟨p, 2, none⟩).isSome = true) (h3 : (W.cell? ⟨p + 1, 0, none⟩).isSome = true) :
    ((((W.setCell ⟨p, 0, none⟩ v0).setCell ⟨p, 1, none⟩ v1).setCell ⟨p, 2, none⟩ v2).setCell ⟨p + 1, 0, none⟩ u).cell? ⟨p, 0, none⟩ = some v0 ∧ ((((W.setCell ⟨p, 0, none⟩ v0).setCell ⟨p, 1, none⟩ v1).setCell ⟨p, 2, none⟩ v2).setCell ⟨p + 1, 0, none⟩ u).cell? ⟨p, 1, none⟩ = some v1 ∧ ((((W.setCell ⟨p, 0, none⟩ v0).setCell ⟨p, 1, none⟩ v1).setCell ⟨p, 2, none⟩ v2).setCell ⟨p + 1, 0, none⟩ u).cell? ⟨p, 2, none⟩ = some v2 ∧ ((((W.setCell ⟨p, 0, none⟩ v0).setCell ⟨p, 1, none⟩ v1).setCell ⟨p, 2, none⟩ v2).setCell ⟨p + 1, 0, none⟩ u).cell? ⟨p + 1, 0, none⟩ = some u := by
  have n1 : (⟨p + 1, 0, none⟩ : Addr) ≠ ⟨p, 0, none⟩ := by simp
  have n2 : (⟨p + 1, 0, none⟩ : Addr) ≠ ⟨p, 1, none⟩ := by simp
  have n3 : (⟨p + 1, 0, none⟩ : Addr) ≠ ⟨p, 2, none⟩ := by simp
  have n4 : (⟨p, 2, none⟩ : Addr) ≠ ⟨p, 0, none⟩ := by simp
  have n5 : (⟨p, 2, none⟩ : Addr) ≠ ⟨p, 1, none⟩ := by simp
  have n6 : (⟨p, 1, none⟩ : Addr) ≠ ⟨p, 0, none⟩ := by simp
  refine ⟨?_, ?_, ?_, ?_⟩
  · rw [World.cell?_setCell_other (h := n1), World.cell?_setCell_other (h := n4), World.cell?_setCell_other (h := n6), World.cell?_setCell_same' _ _ _ h0]
  · rw [World.cell?_setCell_other (h := n2), World.cell?_setCell_other (h := n5), World.cell?_setCell_same' _ _ _ (by rw [World.cell?_setCell_other (h := n6.symm)]; exact h1)]
  · rw [World.cell?_setCell_other (h := n3), World.cell?_setCell_same' _ _ _ (by rw [World.cell?_setCell_other (h := n5.symm), World.cell?_setCell_other (h := n4.symm)]; exact h2)]
  · rw [World.cell?_setCell_same' _ _ _ (by rw [World.cell?_setCell_other (h := n3.symm), World.cell?_setCell_other (h := n2.symm), World.cell?_setCell_other (h := n1.symm)]; exact h3)]
theorem keep4 (W : World) (p : Nat) (v0 v1 v2 u : Value) : KeepsOthers W ((((W.setCell ⟨p, 0, none⟩ v0).setCell ⟨p, 1, none⟩ v1).setCell ⟨p, 2, none⟩ v2).setCell ⟨p + 1, 0, none⟩ u) :=
  (((KeepsOthers.setCell _ _ _).trans (KeepsOthers.setCell _ _ _)).trans (KeepsOthers.setCell _ _ _)).trans (KeepsOthers.setCell _ _ _)
theorem below4 {B p : Nat} {w W : World} (h : Below B w W) (hp : B ≤ p) (v0 v1 v2 u : Value) : Below B w ((((W.setCell ⟨p, 0, none⟩ v0).setCell ⟨p, 1, none⟩ v1).setCell ⟨p, 2, none⟩ v2).setCell ⟨p + 1, 0, none⟩ u) :=
  (((h.setCell (p := ⟨p, 0, none⟩) hp _).setCell (p := ⟨p, 1, none⟩) hp _).setCell (p := ⟨p, 2, none⟩) hp _).setCell (p := ⟨p + 1, 0, none⟩) (by show B ≤ p + 1; omega) _
set_option maxRecDepth 100000 in
set_option maxHeartbeats 4000000 in
theorem Tryz.inCtx_in (F : Fence) (n : Nat) (h4 : F.fn 114) (h6 : F.fn 127) (h8 : F.fn 133) (hro : F.round = none) (hn : 3 ≤ n) (a : Option Addr) (len cap : Nat) (name : ByteArray) (zs : List Dv) (w : World) (hI : DvsIn w.heap.size w (.slice a len cap) zs) :
    CallsIn F n Tryz.prog 114 #[.slice a len cap, .string name] w fun e W' =>
      ((e = .returned (.tuple #[.agg #[.int .i64 0, .slice none 0 0, .slice none 0 0], .bool false]) ∧ ∀ x ∈ zs, x.1 ≠ name) ∨ (∃ k : Nat, k < zs.length ∧ e = .returned (.tuple #[.agg #[.int .i64 (zs[k]?.getD dvD).2.1, (.slice (zs[k]?.getD dvD).2.2.1.1 (zs[k]?.getD dvD).2.2.1.2.1 (zs[k]?.getD dvD).2.2.1.2.2), (.slice (zs[k]?.getD dvD).2.2.2.1 (zs[k]?.getD dvD).2.2.2.2.1 (zs[k]?.getD dvD).2.2.2.2.2)], .bool true]) ∧ (zs[k]?.getD dvD).1 = name ∧ ∀ j, k < j → j < zs.length → (zs[j]?.getD dvD).1 ≠ name)) ∧ Below w.heap.size w W' := by
  have h1 : 1 ≤ n := by omega
  refine callsIn_of_wp_marks Tryz.func114 rfl h4 ?_ hro
  simp only [Tryz.ntmps114, List.size_toArray, List.length_cons, List.length_nil, Nat.reduceAdd, Nat.reduceSub, Array.replicate_succ, Array.replicate_zero, List.push_toArray, List.append_toArray, List.nil_append, List.cons_append]
  gi_wp2_with (gi_at_call 127; refine (Tryz.back_in F (n - 1) h6 hro _ _ _ _).mono ?_; rintro e w' ⟨rfl, rfl⟩)
  obtain ⟨W0, hW0⟩ : ∃ W0, ((((w.alloc (.cells #[.string name] 9)).alloc (.cells #[.int .i64 0, .slice none 0 0, .slice none 0 0] 43)).alloc (.cells #[.bool false] 4)).alloc (.cells #[.slice a len cap] 70)) = W0 := ⟨_, rfl⟩
  have hs0 : W0.heap.size = w.heap.size + 4 := by rw [← hW0]; simp
  have hB0 : W0.heap[w.heap.size]? = some (.cells #[.string name] 9 (0, 0)) := by
    rw [← hW0]
    refine (Below.heap_alloc _ _ _ (by simp; omega)).trans ((Below.heap_alloc _ _ _ (by simp; omega)).trans ((Below.heap_alloc _ _ _ (by simp)).trans (World.alloc_heap_new w _)))
  have hB1 : W0.heap[w.heap.size + 1]? = some (.cells #[.int .i64 0, .slice none 0 0, .slice none 0 0] 43 (0, 0)) := by
    rw [← hW0]
    refine (Below.heap_alloc _ _ _ (by simp)).trans ((Below.heap_alloc _ _ _ (by simp)).trans ?_)
    have := World.alloc_heap_new (w.alloc (.cells #[.string name] 9)) (.cells #[.int .i64 0, .slice none 0 0, .slice none 0 0] 43); rwa [World.size_alloc] at this
  have hB2 : W0.heap[w.heap.size + 2]? = some (.cells #[.bool false] 4 (0, 0)) := by
    rw [← hW0]
    refine (Below.heap_alloc _ _ _ (by simp)).trans ?_
    have := World.alloc_heap_new ((w.alloc (.cells #[.string name] 9)).alloc (.cells #[.int .i64 0, .slice none 0 0, .slice none 0 0] 43)) (.cells #[.bool false] 4); rwa [World.size_alloc, World.size_alloc] at this
  have hB3 : W0.heap[w.heap.size + 3]? = some (.cells #[.slice a len cap] 70 (0, 0)) := by
    rw [← hW0]
    have := World.alloc_heap_new (((w.alloc (.cells #[.string name] 9)).alloc (.cells #[.int .i64 0, .slice none 0 0, .slice none 0 0] 43)).alloc (.cells #[.bool false] 4)) (.cells #[.slice a len cap] 70); rwa [World.size_alloc, World.size_alloc, World.size_alloc] at this
  have hBW : Below w.heap.size w W0 := by rw [← hW0]; exact ((((Below.refl _ w).alloc (Nat.le_refl _) _).alloc (by simp) _).alloc (by simp; omega) _).alloc (by simp; omega) _
  rw [hW0]
  have hc3 : W0.cell? ⟨w.heap.size + 3, 0, none⟩ = some (.slice a len cap) := by simp [World.cell?, hB3]
  refine wpIn_rangeFunc_ownH hro h1 (gf := 133) (lb := #[.pointer (some ⟨w.heap.size + 3, 0, none⟩)]) rfl h8 (enters_of Tryz.func133 (by kernel_rfl) rfl)
    (Tryz.back_stops F (n - 1) h8 hro (by omega) (w.heap.size + 3) (w.heap.size + 4) _ zs W0 (by omega) (by omega) (by omega) hc3 ((hI.below hBW).mono (by omega))) belowK_t (belowK_b (by omega)) (Below.refl _ _) (fun _ => rfl)
    (fun pre W => (∀ p ∈ pre, p.2.1 ≠ name) ∧ Below (w.heap.size + 4) W0 W)
    (fun c pre W => (c = .ret ∧ ∃ ini last, pre = ini ++ [last] ∧ (∀ p ∈ ini, p.2.1 ≠ name) ∧ last.2.1 = name ∧ W.cell? ⟨w.heap.size + 1, 0, none⟩ = some (.int .i64 last.2.2.1) ∧ W.cell? ⟨w.heap.size + 1, 1, none⟩ = some (.slice last.2.2.2.1.1 last.2.2.2.1.2.1 last.2.2.2.1.2.2) ∧ W.cell? ⟨w.heap.size + 1, 2, none⟩ = some (.slice last.2.2.2.2.1 last.2.2.2.2.2.1 last.2.2.2.2.2.2) ∧ W.cell? ⟨w.heap.size + 2, 0, none⟩ = some (.bool true)) ∧ Below w.heap.size w W)
    (OwnFrom.and (Own.from (fun s A B row hs hg hr => hs) _) (ownFrom_below (by omega) (by omega)))
    (fun c => OwnFrom.and (Own.from (fun s A B row hs hg hr => by obtain ⟨hc, ini, last, e1, e2, e3, e4, e5, e6, e7⟩ := hs; exact ⟨hc, ini, last, e1, e2, e3, cell_kept e4 hg hr, cell_kept e5 hg hr, cell_kept e6 hg hr, cell_kept e7 hg hr⟩) _) (ownFrom_below (Nat.le_refl _) (by omega)))
    ⟨by simp, Below.refl _ _⟩
    (fun x a' W => ∃ Bx, w.heap.size + 4 ≤ Bx ∧ W.cell? ⟨Bx, 0, none⟩ = some (.string x.2.1) ∧ W.cell? ⟨Bx, 1, none⟩ = some (.int .i64 x.2.2.1) ∧ W.cell? ⟨Bx, 2, none⟩ = some (.slice x.2.2.2.1.1 x.2.2.2.1.2.1 x.2.2.2.1.2.2) ∧ W.cell? ⟨Bx, 3, none⟩ = some (.slice x.2.2.2.2.1 x.2.2.2.2.2.1 x.2.2.2.2.2.2) ∧ a' = { tmps := #[.slice a len cap, .string name, undef, .pointer (some ⟨w.heap.size, 0, none⟩), .pointer (some ⟨w.heap.size + 1, 0, none⟩), .pointer (some ⟨w.heap.size + 2, 0, none⟩), undef, .pointer (some ⟨Bx, 0, none⟩), .slice a len cap, .func (.func 133) #[] #[.pointer (some ⟨w.heap.size + 3, 0, none⟩)], .int .i64 (x.1 : Int), .agg #[.string x.2.1, .int .i64 x.2.2.1, (.slice x.2.2.2.1.1 x.2.2.2.1.2.1 x.2.2.2.1.2.2), (.slice x.2.2.2.2.1 x.2.2.2.2.2.1 x.2.2.2.2.2.2)], undef, undef, undef, undef, undef, undef, undef], defers := [] })
    (fun x a' => Own.from (fun s A B row hs hg hr => by obtain ⟨Bx, hb, e1, e2, e3, e4, e5⟩ := hs; exact ⟨Bx, hb, cell_kept e1 hg hr, cell_kept e2 hg hr, cell_kept e3 hg hr, cell_kept e4 hg hr, e5⟩) _)
    ?assign ?body ?done ?stop
  case assign =>
    rintro l pre x W K ⟨hp, hB⟩ hK
    obtain ⟨k, s, i, ⟨l1, l2, l3⟩, ⟨a1, a2, a3⟩⟩ := x
    unfold dvE
    have hsz := hB.size
    gi_wp2
    have hnew := World.alloc_heap_new W (.cells #[.string s, .int .i64 i, .slice l1 l2 l3, .slice a1 a2 a3] 69)
    exact hK _ _ ((KeepsOthers.alloc W _).from _) ((Below.refl _ W).alloc (by omega) _) ⟨hp, hB.alloc (by omega) _⟩ ⟨W.heap.size, by omega, (cellAt hnew).trans rfl, (cellAt hnew).trans rfl, (cellAt hnew).trans rfl, (cellAt hnew).trans rfl, rfl⟩
  case body =>
    rintro l pre x a' W hl hlo ⟨hp, hB⟩ ⟨Bx, hb, e1, e2, e3, e4, rfl⟩ _
    have b0 := (hB.block w.heap.size (by omega)).trans hB0
    have b1 := (hB.block (w.heap.size + 1) (by omega)).trans hB1
    have b2 := (hB.block (w.heap.size + 2) (by omega)).trans hB2
    have c0 : W.cell? ⟨w.heap.size, 0, none⟩ = some (.string name) := by simp [World.cell?, b0]
    have c10 : W.cell? ⟨w.heap.size + 1, 0, none⟩ = some (.int .i64 0) := by simp [World.cell?, b1]
    have c11 : W.cell? ⟨w.heap.size + 1, 1, none⟩ = some (.slice none 0 0) := by simp [World.cell?, b1]
    have c12 : W.cell? ⟨w.heap.size + 1, 2, none⟩ = some (.slice none 0 0) := by simp [World.cell?, b1]
    have c20 : W.cell? ⟨w.heap.size + 2, 0, none⟩ = some (.bool false) := by simp [World.cell?, b2]
    have f10 : W.frozen? ⟨w.heap.size + 1, 0, none⟩ = false := by simp [World.frozen?, b1]
    have f11 : W.frozen? ⟨w.heap.size + 1, 1, none⟩ = false := by simp [World.frozen?, b1]
    have f12 : W.frozen? ⟨w.heap.size + 1, 2, none⟩ = false := by simp [World.frozen?, b1]
    have f20 : W.frozen? ⟨w.heap.size + 2, 0, none⟩ = false := by simp [World.frozen?, b2]
    gi_wp2
    · rename_i hx
      obtain ⟨s0, s1, s2, s3⟩ := set4 W (w.heap.size + 1) (.int .i64 x.2.2.1) (.slice x.2.2.2.1.1 x.2.2.2.1.2.1 x.2.2.2.1.2.2) (.slice x.2.2.2.2.1 x.2.2.2.2.2.1 x.2.2.2.2.2.2) (.bool true) (by rw [c10]; rfl) (by rw [c11]; rfl) (by rw [c12]; rfl) (by rw [show w.heap.size + 1 + 1 = w.heap.size + 2 from rfl, c20]; rfl)
      exact ⟨(keep4 W (w.heap.size + 1) _ _ _ _).from _, ⟨rfl, pre, x, rfl, hp, strEq_of hx, s0, s1, s2, s3⟩, below4 (hBW.trans (hB.mono (by omega))) (by omega) _ _ _ _⟩
    · rename_i hx
      exact ⟨KeepsFrom.refl _ _, Below.refl _ _, ⟨fun p hp' => (List.mem_append.1 hp').elim (hp p) (fun e => by simp at e; subst e; exact strNe_of hx), hB⟩⟩
  case done =>
    rintro D ys W hD rfl ⟨hne, hB⟩ hK
    have b1 := (hB.block (w.heap.size + 1) (by omega)).trans hB1
    have b2 := (hB.block (w.heap.size + 2) (by omega)).trans hB2
    have c10 : W.cell? ⟨w.heap.size + 1, 0, none⟩ = some (.int .i64 0) := by simp [World.cell?, b1]
    have c11 : W.cell? ⟨w.heap.size + 1, 1, none⟩ = some (.slice none 0 0) := by simp [World.cell?, b1]
    have c12 : W.cell? ⟨w.heap.size + 1, 2, none⟩ = some (.slice none 0 0) := by simp [World.cell?, b1]
    have c20 : W.cell? ⟨w.heap.size + 2, 0, none⟩ = some (.bool false) := by simp [World.cell?, b2]
    have f10 : W.frozen? ⟨w.heap.size + 1, 0, none⟩ = false := by simp [World.frozen?, b1]
    have f11 : W.frozen? ⟨w.heap.size + 1, 1, none⟩ = false := by simp [World.frozen?, b1]
    have f12 : W.frozen? ⟨w.heap.size + 1, 2, none⟩ = false := by simp [World.frozen?, b1]
    have f20 : W.frozen? ⟨w.heap.size + 2, 0, none⟩ = false := by simp [World.frozen?, b2]
    gi_wp2
    obtain ⟨s0, s1, s2, s3⟩ := set4 W (w.heap.size + 1) (.int .i64 0) (.slice none 0 0) (.slice none 0 0) (.bool false) (by rw [c10]; rfl) (by rw [c11]; rfl) (by rw [c12]; rfl) (by rw [show w.heap.size + 1 + 1 = w.heap.size + 2 from rfl, c20]; rfl)
    have hbel := below4 (p := w.heap.size + 1) (hBW.trans (hB.mono (by omega))) (by omega) (.int .i64 0) (.slice none 0 0) (.slice none 0 0) (.bool false)
    have hK' := (keep4 W (w.heap.size + 1) (.int .i64 0) (.slice none 0 0) (.slice none 0 0) (.bool false)).same D _ hK rfl
    generalize ((((W.setCell ⟨w.heap.size + 1, 0, none⟩ (.int .i64 0)).setCell ⟨w.heap.size + 1, 1, none⟩ (.slice none 0 0)).setCell ⟨w.heap.size + 1, 2, none⟩ (.slice none 0 0)).setCell ⟨w.heap.size + 1 + 1, 0, none⟩ (.bool false)) = W4 at *
    refine ⟨by simp, .inl ⟨_, _, rfl, run_takeDeferred hK', ?_⟩⟩
    have q0 := cell_kept s0 (grownBy_putObj' _ D (.deferred none)) (fun r e => by cases e; exact ⟨_, hK', rfl⟩)
    have q1 := cell_kept s1 (grownBy_putObj' _ D (.deferred none)) (fun r e => by cases e; exact ⟨_, hK', rfl⟩)
    have q2 := cell_kept s2 (grownBy_putObj' _ D (.deferred none)) (fun r e => by cases e; exact ⟨_, hK', rfl⟩)
    have q3 := cell_kept s3 (grownBy_putObj' _ D (.deferred none)) (fun r e => by cases e; exact ⟨_, hK', rfl⟩)
    refine ⟨.tuple #[.agg #[.int .i64 0, .slice none 0 0, .slice none 0 0], .bool false], ?_, .inl ⟨rfl, fun x hx => ?_⟩, hbel.trans (belowK_b (w := w) (Nat.le_refl _) _ D _ _ (by omega) hK' rfl rfl)⟩
    · simp [results, Tryz.f114, go_sem, q0, q1, q2, q3]
    · obtain ⟨j, hj, rfl⟩ := List.mem_iff_getElem.1 hx
      have := hne (j, zs[j]?.getD dvD) (by
        simp only [dnto, List.mem_map, List.mem_range]
        exact ⟨zs.length - 1 - j, by omega, by rw [show zs.length - 1 - (zs.length - 1 - j) = j by omega]⟩)
      simpa [hj] using this
  case stop =>
    rintro D c pre W hD ⟨k, hk, rfl⟩ ⟨⟨rfl, ini, last, e1, e2, e3, e4, e5, e6, e7⟩, hB⟩ hK
    gi_wp2
    refine ⟨by simp, .inl ⟨_, _, rfl, run_takeDeferred hK, ?_⟩⟩
    have q0 := cell_kept e4 (grownBy_putObj' _ D (.deferred none)) (fun r e => by cases e; exact ⟨_, hK, rfl⟩)
    have q1 := cell_kept e5 (grownBy_putObj' _ D (.deferred none)) (fun r e => by cases e; exact ⟨_, hK, rfl⟩)
    have q2 := cell_kept e6 (grownBy_putObj' _ D (.deferred none)) (fun r e => by cases e; exact ⟨_, hK, rfl⟩)
    have q3 := cell_kept e7 (grownBy_putObj' _ D (.deferred none)) (fun r e => by cases e; exact ⟨_, hK, rfl⟩)
    rw [dnto_step zs k hk] at e1
    obtain ⟨rfl, e8⟩ := List.append_inj' e1 rfl
    obtain rfl : (k, zs[k]?.getD dvD) = last := by simpa using e8
    refine ⟨.tuple #[.agg #[.int .i64 (zs[k]?.getD dvD).2.1, .slice (zs[k]?.getD dvD).2.2.1.1 (zs[k]?.getD dvD).2.2.1.2.1 (zs[k]?.getD dvD).2.2.1.2.2, .slice (zs[k]?.getD dvD).2.2.2.1 (zs[k]?.getD dvD).2.2.2.2.1 (zs[k]?.getD dvD).2.2.2.2.2], .bool true], ?_, .inr ⟨k, hk, rfl, e3, fun j hkj hj => e2 (j, zs[j]?.getD dvD) (by
      simp only [dnto, List.mem_map, List.mem_range]
      exact ⟨zs.length - 1 - j, by omega, by rw [show zs.length - 1 - (zs.length - 1 - j) = j by omega]⟩)⟩, hB.trans (belowK_b (w := w) (Nat.le_refl _) W D _ _ (by omega) hK rfl rfl)⟩
    simp [results, Tryz.f114, go_sem, q0, q1, q2, q3]
end Go.Proofs
/- The type of a name in a context: the program's function, as a contract over data. -/
namespace Go.VC
open Go Go.RowKit
/-- A call that turns nothing of what was, and hands back trees. -/
theorem FnS.stillT {P : Program} {g : FuncId} {σ : Sto} {ys : List TV} {r : TV} (hcall : ∀ (w : World) (ω : Lab) (κ : Nat → Value) (vs : List Value), RS w ω κ σ → All2 (RT w ω κ σ) ys vs →
      Calls P g vs.toArray w fun e w' => (∃ u, e = .returned u ∧ ∀ (w' : World), (∀ b, ω b = .im → w'.heap[b]? = w.heap[b]?) → RT w' ω κ σ r u) ∧ Below w.heap.size w w') :
    FnS P g σ ys σ r := by
  intro w ω κ vs hS hω hvs
  refine (hcall w ω κ vs hS hvs).mono fun e w' ⟨⟨u, he, hu⟩, hb⟩ => ?_
  have hl : ∀ c, ω c ≠ .no → w'.heap[c]? = w.heap[c]? := fun c hc => hb.block c (hS.dom c hc)
  refine ⟨u, ω, κ, he, ⟨hb.os, hb.tape, hb.output, hb.size, fun c hc _ => hb.block c hc, fun _ h => h, fun _ _ h => h⟩, ⟨fun j o hj => ?_, fun c hc => Nat.lt_of_lt_of_le (hS.dom c hc) hb.size⟩, hu w' fun b h => hl b (by rw [h]; simp), fun j _ => KeyOk.refl _ _ _⟩
  exact (hS.ob j o hj).step rfl (fun c hc => ⟨hc, hl c (by rw [hc]; simp)⟩) (fun c hc => ⟨hc, hl c (by rw [hc]; simp)⟩) fun _ _ _ i _ => KeyOk.refl _ _ _
/-- The machine's values of typings. -/
def DvOf (w : World) (ω : Lab) (d : Decl) (x : Go.Proofs.Dv) : Prop := x.1 = d.name ∧ x.2.1 = d.row.kind ∧ RI w ω (slI eS d.row.labels) (.slice x.2.2.1.1 x.2.2.1.2.1 x.2.2.1.2.2) ∧ RI w ω (slI eTy d.row.args) (.slice x.2.2.2.1 x.2.2.2.2.1 x.2.2.2.2.2)
theorem RI_slice {w : World} {ω : Lab} {n : Nat} {cs : List IV} {v : Value} (h : RI w ω (.sl n cs) v) : ∃ a m c, v = .slice a m c := by
  cases h with
  | slnil => exact ⟨none, 0, 0, rfl⟩
  | sl n c cs a vs => exact ⟨some a, n, c, rfl⟩
theorem dvs_of {w : World} {ω : Lab} : ∀ {ctx : List Decl} {vs : Nat → Value}, (∀ j x, (ctx.flatMap eDecl)[j]? = some x → RI w ω x (vs j)) →
    ∃ zs : List Go.Proofs.Dv, zs.length = ctx.length ∧ (∀ j, (h : j < zs.length) → (h' : j < ctx.length) → DvOf w ω ctx[j] zs[j] ∧ vs (j * 4) = .string zs[j].1 ∧ vs (j * 4 + 1) = .int .i64 zs[j].2.1 ∧ vs (j * 4 + 2) = .slice zs[j].2.2.1.1 zs[j].2.2.1.2.1 zs[j].2.2.1.2.2 ∧ vs (j * 4 + 3) = .slice zs[j].2.2.2.1 zs[j].2.2.2.2.1 zs[j].2.2.2.2.2)
  | [], vs, h => ⟨[], rfl, fun j h => by simp at h⟩
  | d :: r, vs, h => by
    have e : (d :: r).flatMap eDecl = eDecl d ++ r.flatMap eDecl := by simp
    rw [e, eDecl_eta] at h
    have h0 := h 0 _ rfl
    have h1 := h 1 _ rfl
    have h2 := h 2 _ rfl
    have h3 := h 3 _ rfl
    obtain ⟨zs, hl, hz⟩ := dvs_of (ctx := r) (vs := fun j => vs (j + 4)) fun j x hx => h (j + 4) x (by simpa using hx)
    obtain ⟨a2, m2, c2, e2⟩ := RI_slice h2
    obtain ⟨a3, m3, c3, e3⟩ := RI_slice h3
    rw [e2] at h2
    rw [e3] at h3
    have e0 : vs 0 = .string d.name := by generalize vs 0 = u at h0; cases h0; rfl
    have e1 : vs 1 = .int .i64 d.row.kind := by generalize vs 1 = u at h1; cases h1; rfl
    refine ⟨(d.name, d.row.kind, (a2, m2, c2), (a3, m3, c3)) :: zs, by simp [hl], fun j hj hj' => ?_⟩
    cases j with
    | zero => exact ⟨⟨rfl, rfl, h2, h3⟩, e0, e1, e2, e3⟩
    | succ j =>
      have := hz j (by simpa using hj) (by simpa using hj')
      simp only [List.getElem_cons_succ]
      rw [show (j + 1) * 4 = j * 4 + 4 by omega, show j * 4 + 4 + 1 = (j * 4 + 1) + 4 by omega, show j * 4 + 4 + 2 = (j * 4 + 2) + 4 by omega, show j * 4 + 4 + 3 = (j * 4 + 3) + 4 by omega]
      exact this
theorem flatD_len (ctx : List Decl) : (ctx.flatMap eDecl).length = ctx.length * 4 := by
  induction ctx with
  | nil => rfl
  | cons d r ih => rw [List.flatMap_cons, List.length_append, ih, eDecl_eta, List.length_cons]; simp; omega
/-- What a slice of typings is to the machine. -/
theorem ctx_dvs0 {w : World} {ω : Lab} {κ : Nat → Value} {σ : Sto} (hS : RS w ω κ σ) {ctx : List Decl} (hl : ctx.length ≤ 2^40) {v : Value} {n : Nat} {cs : List IV} (h : RI w ω (.sl n cs) v) (hn : n = ctx.length) (hcs : cs = ctx.flatMap eDecl) : ∃ a n c zs, v = .slice a n c ∧ Go.Proofs.DvsIn w.heap.size w (.slice a n c) zs ∧ zs.length = ctx.length ∧ ∀ j, (h : j < zs.length) → (h' : j < ctx.length) → DvOf w ω ctx[j] zs[j] := by
  cases h with
  | slnil =>
    obtain rfl := List.eq_nil_of_length_eq_zero hn.symm
    exact ⟨none, 0, 0, [], rfl, .inl ⟨none, 0, rfl, rfl⟩, rfl, fun j h => by simp at h⟩
  | sl n c cs a vs hd hnc hm hcell hcells =>
    subst hcs
    obtain ⟨zs, hzl, hz⟩ := dvs_of (vs := vs) hcells
    refine ⟨some a, n, c, zs, rfl, ?_, by omega, fun j h h' => (hz j h h').1⟩
    by_cases h0 : n = 0
    · subst h0
      obtain rfl := List.eq_nil_of_length_eq_zero hn.symm
      exact .inl ⟨some a, c, rfl, List.eq_nil_of_length_eq_zero (by simpa using hzl)⟩
    · have hlen := flatD_len ctx
      have hc0 := hcell 0 (by omega)
      have hspot : a.spot = none := by
        unfold World.cell? at hc0
        split at hc0
        · split at hc0
          · cases hc0
          · rename_i hs
            have : (a.add 0).spot = a.spot := by unfold Addr.add; split <;> simp_all
            rw [this] at hs
            simpa using hs
        · cases hc0
      obtain ⟨b, off, spot⟩ := a
      obtain rfl : spot = none := hspot
      have hb : b < w.heap.size := hS.dom b (by rw [hd (by rw [Ne, ← List.length_eq_zero_iff]; omega)]; simp)
      have hadd : ∀ j, (⟨b, off, none⟩ : Addr).add j = ⟨b, off + j, none⟩ := fun j => by rw [Addr.add_lit]
      have g : ∀ j, j < n * 4 → w.cell? ⟨b, off + j, none⟩ = some (vs j) := fun j hj => by rw [← hadd]; exact hcell j (by omega)
      have ez : ∀ j, (hj : j < zs.length) → zs[j]?.getD Go.Proofs.dvD = zs[j] := fun j hj => by simp [hj]
      rw [show n = zs.length by omega] at g ⊢
      refine .inr ⟨b, off, c, rfl, hb, by omega, fun j hj => ?_, fun j hj => ?_, fun j hj => ?_, fun j hj => ?_⟩
      · rw [ez j hj, g _ (by omega), (hz j hj (by omega)).2.1]
      · rw [ez j hj, Nat.add_assoc, g _ (by omega), (hz j hj (by omega)).2.2.1]
      · rw [ez j hj, Nat.add_assoc, g _ (by omega), (hz j hj (by omega)).2.2.2.1]
      · rw [ez j hj, Nat.add_assoc, g _ (by omega), (hz j hj (by omega)).2.2.2.2]
theorem ctx_dvs {w : World} {ω : Lab} {κ : Nat → Value} {σ : Sto} (hS : RS w ω κ σ) {ctx : List Decl} (hl : ctx.length ≤ 2^40) {v : Value} (h : RI w ω (slI eDecl ctx) v) : ∃ a n c zs, v = .slice a n c ∧ Go.Proofs.DvsIn w.heap.size w (.slice a n c) zs ∧ zs.length = ctx.length ∧ ∀ j, (h : j < zs.length) → (h' : j < ctx.length) → DvOf w ω ctx[j] zs[j] := ctx_dvs0 hS hl h rfl rfl
end Go.VC
/- The type of a name in a context: the program's function's contract. -/
namespace Go.VC
open Go Go.RowKit
def ty0 : Ty := .mk 0 [] []
theorem look_none {ctx : List Decl} {name : ByteArray} (h : ∀ j, (h : j < ctx.length) → ctx[j].name ≠ name) : lookT ctx name = none := by
  unfold lookT
  rw [show (ctx.reverse.find? fun d => decide (d.name = name)) = none from List.find?_eq_none.2 fun d hd => by
    obtain ⟨j, hj, rfl⟩ := List.mem_iff_getElem.1 (List.mem_reverse.1 hd)
    simpa using h j hj]
  rfl
theorem look_at {ctx : List Decl} {name : ByteArray} {k : Nat} (hk : k < ctx.length) (hn : ctx[k].name = name) (h : ∀ j, k < j → (h : j < ctx.length) → ctx[j].name ≠ name) : lookT ctx name = some ctx[k].row := by
  unfold lookT
  have e : ctx = ctx.take k ++ (ctx[k] :: ctx.drop (k + 1)) := by rw [← List.drop_eq_getElem_cons hk, List.take_append_drop]
  have e2 : ctx.reverse = (ctx.drop (k + 1)).reverse ++ (ctx[k] :: (ctx.take k).reverse) := by
    conv => lhs; rw [e]
    simp
  have e3 : ((ctx.drop (k + 1)).reverse.find? fun d => decide (d.name = name)) = none := List.find?_eq_none.2 fun d hd => by
    obtain ⟨j, hj, rfl⟩ := List.mem_iff_getElem.1 (List.mem_reverse.1 hd)
    rw [List.length_drop] at hj
    rw [List.getElem_drop]
    simpa using h (k + 1 + j) (by omega) (by omega)
  rw [e2, List.find?_append, e3, List.find?_cons]
  simp [hn]
theorem rt_ty {w : World} {ω : Lab} {κ : Nat → Value} {σ : Sto} {v : Ty} {s1 s2 : Value} (h1 : RI w ω (slI eS v.labels) s1) (h2 : RI w ω (slI eTy v.args) s2) : RT1 w ω κ σ (agT (eTy v)) (.agg #[.int .i64 v.kind, s1, s2]) := by
  rw [eTy_eta]
  refine ⟨[.int .i64 v.kind, s1, s2], rfl, ⟨rfl, fun j x y hx hy => ?_⟩, fun u hu => ?_⟩
  · match j, hx, hy with
    | 0, hx, hy => cases hx; cases hy; exact .im _ _ (.sc _ rfl)
    | 1, hx, hy => cases hx; cases hy; exact .im _ _ h1
    | 2, hx, hy => cases hx; cases hy; exact .im _ _ h2
  · simp only [List.mem_cons, List.not_mem_nil, or_false] at hu
    rcases hu with rfl | rfl | rfl
    · rfl
    · exact h1.one
    · exact h2.one
set_option maxRecDepth 100000 in
set_option maxHeartbeats 1000000 in
theorem inCtx_ok (ctx : List Decl) (hl : ctx.length ≤ 2^40) (name : ByteArray) : FnP Go.Proofs.Tryz.prog 114 [slT eDecl ctx, sT name] (.tp [agT (eTy ((lookT ctx name).getD ty0)), bT (lookT ctx name).isSome]) := by
  refine FnS.stillT fun w ω κ vs hS hvs => ?_
  obtain ⟨hlen, hvs⟩ := hvs
  match vs, hlen, hvs with
  | [v0, v1], _, hvs =>
    have h0 : RI w ω (slI eDecl ctx) v0 := by
      have h : RC w ω κ [] (.im (slI eDecl ctx)) v0 := hvs 0 _ _ rfl rfl
      cases h; assumption
    have h1 : v1 = .string name := by
      have h : RC w ω κ [] (.im (.sc (.string name))) v1 := hvs 1 _ _ rfl rfl
      cases h with | im x v h => cases h; rfl
    subst h1
    obtain ⟨a, n, c, zs, rfl, hI, hzl, hz⟩ := ctx_dvs hS hl h0
    have hc := (callsIn_wide (n := 3)).1 (Go.Proofs.Tryz.inCtx_in Fence.wide 3 trivial trivial trivial rfl (by omega) a n c name zs w hI)
    refine hc.mono fun e w' ⟨he, hb⟩ => ⟨?_, hb⟩
    rcases he with ⟨rfl, hno⟩ | ⟨k, hk, rfl, hn, hmax⟩
    · refine ⟨_, rfl, fun w' hw => ?_⟩
      rw [look_none fun j hj => by
        have := hno _ (List.getElem_mem (show j < zs.length by omega))
        rw [(hz j (by omega) hj).1] at this
        exact this]
      refine ⟨[.agg #[.int .i64 0, .slice none 0 0, .slice none 0 0], .bool false], rfl, ⟨rfl, fun j x y hx hy => ?_⟩⟩
      match j, hx, hy with
      | 0, hx, hy => cases hx; cases hy; exact rt_ty (v := ty0) .slnil .slnil
      | 1, hx, hy => cases hx; cases hy; exact .im _ _ (.sc _ rfl)
    · refine ⟨_, rfl, fun w' hw => ?_⟩
      have hk' : k < ctx.length := by omega
      obtain ⟨d1, d2, d3, d4⟩ := hz k hk hk'
      have ek : zs[k]?.getD Go.Proofs.dvD = zs[k] := by simp [hk]
      rw [ek] at hn ⊢
      rw [look_at hk' (d1 ▸ hn) fun j hj hj' => by
        have := hmax j hj (by omega)
        rw [show zs[j]?.getD Go.Proofs.dvD = zs[j]'(by omega) by simp [show j < zs.length by omega], (hz j (by omega) hj').1] at this
        exact this, d2]
      refine ⟨[.agg #[.int .i64 ctx[k].row.kind, .slice zs[k].2.2.1.1 zs[k].2.2.1.2.1 zs[k].2.2.1.2.2, .slice zs[k].2.2.2.1 zs[k].2.2.2.2.1 zs[k].2.2.2.2.2], .bool true], rfl, ⟨rfl, fun j x y hx hy => ?_⟩⟩
      match j, hx, hy with
      | 0, hx, hy => cases hx; cases hy; exact rt_ty (v := ctx[k].row) (d3.kept fun b hb => ⟨hb, hw b hb⟩) (d4.kept fun b hb => ⟨hb, hw b hb⟩)
      | 1, hx, hy => cases hx; cases hy; exact .im _ _ (.sc _ rfl)
end Go.VC
/- Types of rows, of fields; contexts: the program's side. -/
namespace Go.VC.T
open Go Go.VC Go.Proofs Go.VC.F
def fc48A81 := (ai (ai (ai sz4 ag4) (ai zv4 (ai un4 sz25))) (ai (ai ag25 (ai zv25 sb25)) (ai un25 (ai el25 ap25))))
theorem slCloneS_ne (xs : List ByteArray) (hx : xs.length ≤ 2^20) (hn : ¬ xs.length = 0) : FnS Tryz.prog 48 [] [slT eS xs] [(10, .vec 9 1 xs.length (xs.flatMap eS) true)] (.c (.os 10 xs.length)) := by
  refine FnS.go [0, 2, 4] [] Tryz.func48 rfl (fun kt kz => ?_)
  have fcx := fc48A81
  simp only [Tryz.f48]
  refine Run ((ai @hn @allSc_eS)) ?_; with_reducible repeat' (first | exact True.intro | refine Lf.mk ?_ ?_ | intro hb)
  rename_i b
  have hbf : b = false := by cases b with | false => rfl | true => exact (hb rfl).elim
  have hfl : (xs.flatMap eS).length = xs.length := by rw [flat_len']; omega
  refine Run ((ai @hbf (ai @allSc_eS @hfl))) ?_; with_reducible repeat' (first | exact True.intro | refine Lf.mk ?_ ?_ | intro hb)
theorem slCloneS_nil (u : Unit) : FnS Tryz.prog 48 [] [slT eS []] [(10, .vec 9 1 0 [] true)] (.c (.os 10 0)) := by
  refine FnS.go [0, 2, 4] [] Tryz.func48 rfl (fun kt kz => ?_)
  have fcx := fc48A81
  simp only [Tryz.f48]
  refine Run (@allSc_eS) ?_; with_reducible repeat' (first | exact True.intro | refine Lf.mk ?_ ?_ | intro hb)
  cases hb
  · have hf : ([] : List ByteArray).flatMap eS = [] := rfl
    have hl : ([] : List IV).length = 0 := rfl
    have ha : allSc [] = true := rfl
    refine Run ((ai @hf (ai @hl @ha))) ?_; with_reducible repeat' (first | exact True.intro | refine Lf.mk ?_ ?_ | intro hb)
  · refine Sm.cond (b := true) rfl (fun _ => ?_) (fun h => by cases h)
    refine Sm.seq (Sm.region ?_)
    simp -dsimp (maxSteps := 2000000) (disch := omega) only [vs, ↓Option.bind_some, ev1, ofV, scalarB, Kn, Kb, calleeOf, evLoad, ptr, evField, evFieldAddr, shift, ↓pt_at, ↓pt_at1, evExtract, evBin, evLen, evConv, cellsT, noS, Cell.has, Cell.hasN, Cell.anyN, toIV, toIV0, toIVs, ownC, srcM, Ob.own, Ob.esz, allSc, nilK, lenC, ownCell, isPtr, ptrNil, frzO, Cell.frz, Cell.keys, ↓reduceIte, reduceCtorEq, Nat.reduceEqDiff, Nat.reduceBEq, Nat.reduceBNe, Nat.reduceAdd, Nat.reduceMul, Nat.reduceSub, Nat.reduceLT, Nat.reduceLeDiff, Nat.reducePow, Int.reduceLT, Int.reduceLE, Int.reduceEq, Int.reduceNe, quietB, Nat.reduceMod, Int.reduceToNat, ne_eq, eq_self, exists_const, evBytes, byRow, byL, byStr_size, ifsz, ByteArray.size_append, Option.none_or, Option.some_or, evLook, keyD, fc48A81]
    refine Sm.nlT 2 10 9 1 true rfl rfl (by decide) rfl rfl ?_
    exact Sm.ret (RetK.own (.inr rfl) rfl (by simp [subS, get]))

theorem slCloneS_ok (xs : List ByteArray) (hx : xs.length ≤ 2^20) : FnS Tryz.prog 48 [] [slT eS xs] [(10, .vec 9 1 xs.length (xs.flatMap eS) true)] (.c (.os 10 xs.length)) := by
  by_cases hn : xs.length = 0
  · obtain rfl := List.eq_nil_of_length_eq_zero hn
    exact slCloneS_nil ()
  · exact slCloneS_ne xs hx hn
theorem slCloneS_t (xs : List ByteArray) (hx : xs.length ≤ 2^20) : FnP Tryz.prog 48 [slT eS xs] (slT eS xs) := (slCloneS_ok xs hx).tree (by simp -dsimp (maxSteps := 2000000) (disch := omega) only [vs, ↓Option.bind_some, ev1, ofV, scalarB, Kn, Kb, calleeOf, evLoad, ptr, evField, evFieldAddr, shift, ↓pt_at, ↓pt_at1, evExtract, evBin, evLen, evConv, cellsT, noS, Cell.has, Cell.hasN, Cell.anyN, toIV, toIV0, toIVs, ownC, srcM, Ob.own, Ob.esz, allSc, nilK, lenC, ownCell, isPtr, ptrNil, frzO, Cell.frz, Cell.keys, ↓reduceIte, reduceCtorEq, Nat.reduceEqDiff, Nat.reduceBEq, Nat.reduceBNe, Nat.reduceAdd, Nat.reduceMul, Nat.reduceSub, Nat.reduceLT, Nat.reduceLeDiff, Nat.reducePow, Int.reduceLT, Int.reduceLE, Int.reduceEq, Int.reduceNe, quietB, Nat.reduceMod, Int.reduceToNat, ne_eq, eq_self, exists_const, evBytes, byRow, byL, byStr_size, ifsz, ByteArray.size_append, Option.none_or, Option.some_or, evLook, keyD, slI])
def fc49A81 := (ai (ai (ai (ai sz3 (ai ag3 zv3)) (ai un3 (ai sz25 ag25))) (ai (ai zv25 (ai sb25 un25)) (ai (ai el25 ap25) (ai sz41 ag41)))) (ai (ai (ai zv41 (ai sb41 un41)) (ai (ai el41 ap41) (ai sz43 ag43))) (ai (ai zv43 (ai fl43_0 fl43_1)) (ai (ai fl43_2 pl43) (ai okf48 okf49)))))
theorem cloneTy_of (v : Ty) (hv : okTy (2^20) v) (H : ∀ u ∈ v.args, FnP Tryz.prog 49 [agT (eTy u)] (agT (eTy u))) : FnS Tryz.prog 49 [] [agT (eTy v)] [] (agT (eTy v)) := by
  refine FnS.go [0, 1, 2, 3, 5, 13, 14, 15, 16] [1000] Tryz.func49 rfl (fun kt kz => ?_)
  have fcx := fc49A81
  simp only [Tryz.f49]
  have dx : Dx 7 6 3 := ⟨⟩
  have ho := okTy_iff.1 hv
  have hl1 := ho.2.1.1
  have hl := ho.2.2.1
  refine RunX (@eTy_eta) ?_; with_reducible repeat' (first | exact True.intro | refine Lf.mk ?_ ?_ | intro hb)
  refine CalI (@eTy_eta) (slCloneS_t v.labels hl1) ?_
  refine RunX (@eTy_eta) ?_; with_reducible repeat' (first | exact True.intro | refine Lf.mk ?_ ?_ | intro hb)
  refine Sm.nlB (6) 2 (1000) (43) 3 false (by rfl) (by rfl) (by rfl) (by decide) (by rfl) (by rfl) (by decide) (by rfl) ?_; simp only [upd, List.set_cons_zero, List.set_cons_succ, ↓reduceIte, Nat.reduceEqDiff]
  refine Trn (α := Nat) [5, 15, 16, 17, 18, 19, 20, 21, 22, 23, 24, 25, 26] (fun i => [(15, iT i)]) (fun i => [(2, .box 43 ((eTy v).map .im)), (4, .box 43 [.im (.sc (.int .i64 0)), .nl, .nl]), (6, .box 43 [.im (.sc (.int .i64 v.kind)), .im (.sl v.labels.length (v.labels.flatMap eS)), .os 1000 i]), (1000, .vec 43 3 i ((v.args.take i).flatMap eTy) false)]) (fun i => i ≤ v.args.length) (fun i => v.args.length - i) (0) (Nat.zero_le _) (@eTy_eta) ?_; intro lx hI; obtain i := lx; (try simp only [List.nil_append, List.cons_append] at hI ⊢)
  by_cases hlt : lx < v.args.length
  · have e1 : (v.args.take lx).flatMap eTy ++ eTy v.args[lx] = (v.args.take (lx + 1)).flatMap eTy := by rw [take_at hlt, List.flatMap_append, flat_one]
    rw [eTy_eta v.args[lx]] at e1
    simp only [slI] at e1
    refine Run ((ai @eTy_eta @hlt)) ?_; with_reducible repeat' (first | exact True.intro | refine Lf.mk ?_ ?_ | intro hb)
    refine CalI (@eTy_eta) (H _ (List.getElem_mem hlt)) ?_
    refine Run ((ai @eTy_eta @hlt)) ?_; with_reducible repeat' (first | exact True.intro | refine Lf.mk ?_ ?_ | intro hb)
    exact Nxt ((ai @eTy_eta @e1)) (lx + 1) (hlt) (by first | omega | (simp; omega))
  · obtain rfl : lx = v.args.length := by omega
    have e1 : (v.args.take v.args.length).flatMap eTy = v.args.flatMap eTy := by rw [List.take_length]
    refine Run ((ai @eTy_eta (ai @hlt @e1))) ?_; with_reducible repeat' (first | exact True.intro | refine Lf.mk ?_ ?_ | intro hb)

theorem cloneTy_ok (v : Ty) (hv : okTy (2^20) v) : FnP Tryz.prog 49 [agT (eTy v)] (agT (eTy v)) :=
  cloneTy_of v hv fun u hu => cloneTy_ok u ((okTy_iff.1 hv).2.2.2 u hu)
termination_by SizeOf.sizeOf v
decreasing_by exact Ty.mem hu
end Go.VC.T
/- Rows of tables, fields, contexts, operations: the program's side. -/
namespace Go.VC
open Go
theorem argTs_get {σ : Sto} : ∀ {ts us : List TV}, argTs σ ts = some us → us.length = ts.length ∧ ∀ (j : Nat) (y : TV), us[j]? = some y → ∃ x, ts[j]? = some x ∧ argT σ x = some y
  | [], us, h => by obtain rfl := Option.some.inj h; exact ⟨rfl, fun j y h => by simp at h⟩
  | x :: r, us, h => by
    simp only [argTs] at h
    obtain ⟨y, hy, h⟩ := Option.bind_eq_some_iff.1 h
    obtain ⟨zs, hz, rfl⟩ := Option.map_eq_some_iff.1 h
    obtain ⟨h1, h2⟩ := argTs_get hz
    refine ⟨by simp [h1], fun j u hj => ?_⟩
    cases j with
    | zero => simp only [List.getElem?_cons_zero, Option.some.injEq] at hj; subst hj; exact ⟨x, rfl, hy⟩
    | succ j => rw [List.getElem?_cons_succ] at hj; obtain ⟨z, h3, h4⟩ := h2 j u hj; exact ⟨z, by rw [List.getElem?_cons_succ]; exact h3, h4⟩
/-- Results that are trees. -/
theorem FnS.treeP {P : Program} {g : FuncId} {ys : List TV} {σ1 : Sto} {ts us : List TV} (h : FnS P g [] ys σ1 (.tp ts)) (hr : argTs σ1 ts = some us) : FnS P g [] ys [] (.tp us) := by
  intro w ω κ vs hS hω hvs
  refine (h w ω κ vs hS hω hvs).mono fun e w' ⟨v, ω', κ', he, ht, hS', hrv, hk⟩ => ⟨v, allIm ω', κ', he, ⟨ht.os, ht.tape, ht.output, ht.size, ht.block, fun b hb => allIm_im (ht.im b hb), fun b hb hn => by unfold allIm; rw [ht.no b hb hn]⟩, ⟨fun k o ho => (by rw [get_nil] at ho; cases ho), fun b hb => hS'.dom b fun e => hb (by unfold allIm; rw [e])⟩, ?_, fun k hk' => (by rw [get_nil] at hk'; cases hk')⟩
  obtain ⟨us', rfl, g1, g2⟩ := hrv
  obtain ⟨hlen, hget⟩ := argTs_get hr
  refine ⟨us', rfl, hlen.trans g1, fun j y v hy hv => ?_⟩
  obtain ⟨x, hx, hxy⟩ := hget j y hy
  have hxv := g2 j x v hx hv
  cases x with
  | c x =>
    obtain ⟨z, hz, rfl⟩ := Option.map_eq_some_iff.1 hxy
    exact .im _ _ (toIV_ok hS' hxv hz)
  | ag cs =>
    obtain ⟨zs, hz, rfl⟩ := Option.map_eq_some_iff.1 hxy
    obtain ⟨us, rfl, g1, g2⟩ := hxv
    have := toIVL_ok hS' hz g1
    refine ⟨us, rfl, ⟨by simp [this.1], fun j p q hp hq => ?_⟩, g2⟩
    rw [List.getElem?_map] at hp
    obtain ⟨z, hz', rfl⟩ := Option.map_eq_some_iff.1 hp
    exact .im _ _ (this.2 j z q hz' hq)
  | tp ts => cases hxy
theorem rowT_at {s : List Decl} {name : ByteArray} {i : Nat} (h : i < s.length) (ht : (s.take i).any (fun d => decide (d.name = name)) = false) (hp : s[i].name = name) : rowT s name = some s[i].row := by
  unfold rowT
  have e : s.find? (fun d => decide (d.name = name)) = some s[i] := by
    rw [List.find?_eq_some_iff_getElem]
    refine ⟨by simpa using hp, i, h, rfl, fun j hj => ?_⟩
    have := List.any_eq_false.1 ht s[j] (by
      rw [List.mem_iff_getElem]
      exact ⟨j, by simp; omega, by simp⟩)
    simpa using this
  rw [e]; rfl
theorem rowT_no {s : List Decl} {name : ByteArray} (h : s.any (fun d => decide (d.name = name)) = false) : rowT s name = none := by
  unfold rowT
  have e : s.find? (fun d => decide (d.name = name)) = none := by
    rw [List.find?_eq_none]
    intro x hx
    have := List.any_eq_false.1 h x hx
    simpa using this
  rw [e]; rfl
theorem idx_lt {α : Type} {p : α → Bool} {l : List α} (h : 0 ≤ idxI p l) : ∃ j : Nat, idxI p l = j ∧ j < l.length := by
  unfold idxI at h ⊢
  split at h
  · rename_i ha
    rw [if_pos ha]
    refine ⟨_, rfl, ?_⟩
    rw [List.findIdx_lt_length]
    exact List.any_eq_true.1 ha
  · omega
end Go.VC
namespace Go.VC.T
open Go Go.VC Go.Proofs Go.VC.F
def fc34A82 := (ai (ai (ai (ai (ai sz3 ag3) (ai zv3 (ai un3 sz4))) (ai (ai ag4 zv4) (ai un4 (ai sz9 ag9)))) (ai (ai (ai zv9 un9) (ai sz37 (ai ag37 zv37))) (ai (ai sb37 un37) (ai el37 (ai ap37 sz39))))) (ai (ai (ai (ai ag39 zv39) (ai fl39_0 (ai pl39 sz43))) (ai (ai ag43 zv43) (ai fl43_0 (ai fl43_1 fl43_2)))) (ai (ai (ai pl43 sz97) (ai ag97 (ai zv97 fl97_0))) (ai (ai fl97_1 pl97) (ai okf49 (ai sz25 sz41))))))
theorem implRowT_a (s : List Decl) (h : okSch (2^20) s) (name : ByteArray) (t : Ty) (ht : rowT s name = some t) : FnS Tryz.prog 34 [] [agT (eSch s), sT name] [] (.tp [agT (eTy t), bT true]) := by
  refine FnS.go [0, 1, 2, 4, 5, 7, 9, 10, 11, 12, 18] [] Tryz.func34 rfl (fun kt kz => ?_)
  have fcx := fc34A82
  simp only [Tryz.f34]
  have ho := okSch_iff.1 h
  have hl := ho.1
  refine Run (@eSch_eta) ?_; with_reducible repeat' (first | exact True.intro | refine Lf.mk ?_ ?_ | intro hb)
  refine Trn (α := Nat) [5, 7, 11, 12, 13, 14, 15, 16, 17, 18, 19, 20, 21, 22] (fun i => [(11, iT i)]) (fun i => [(4, .box 39 ((eSch s).map .im)), (8, .box 43 [.im (.sc (.int .i64 0)), .nl, .nl])]) (fun i => i ≤ s.length ∧ (s.take i).any (fun d => decide (d.name = name)) = false) (fun i => s.length - i) (0) (⟨Nat.zero_le _, rfl⟩) (@eSch_eta) ?_; intro lx hI; obtain i := lx; (try simp only [List.nil_append, List.cons_append] at hI ⊢)
  by_cases hlt : lx < s.length
  · by_cases hn : s[lx].name = name
    · have gn := eq_true hn
      have e := rowT_at hlt hI.2 hn
      obtain rfl : t = s[lx].row := by rw [ht] at e; exact Option.some.inj e
      refine Run ((ai (ai @eSch_eta @eDecl_eta) (ai @hlt @gn))) ?_; with_reducible repeat' (first | exact True.intro | refine Lf.mk ?_ ?_ | intro hb)
      refine CalI (@eTy_eta) (cloneTy_ok s[lx].row (okDecl_iff.1 (ho.2 _ (List.getElem_mem hlt))).2) ?_
      refine Run (@eTy_eta) ?_; with_reducible repeat' (first | exact True.intro | refine Lf.mk ?_ ?_ | intro hb)
    · have gn := eq_false hn
      refine Run ((ai (ai @eSch_eta @eDecl_eta) (ai @hlt @gn))) ?_; with_reducible repeat' (first | exact True.intro | refine Lf.mk ?_ ?_ | intro hb)
      exact Nxt (@eSch_eta) (lx + 1) (⟨by omega, any_take hlt hI.2 (decide_eq_false hn)⟩) (by first | omega | (simp; omega))
  · have e := rowT_no (any_all (by omega) hI.2)
    rw [ht] at e; cases e
theorem implRowT_b (s : List Decl) (h : okSch (2^20) s) (name : ByteArray) (ht : rowT s name = none) : FnS Tryz.prog 34 [] [agT (eSch s), sT name] [] (.tp [.ag [.im (.sc (.int .i64 0)), .nl, .nl], bT false]) := by
  refine FnS.go [0, 1, 2, 4, 5, 7, 9, 10, 11, 12, 18] [] Tryz.func34 rfl (fun kt kz => ?_)
  have fcx := fc34A82
  simp only [Tryz.f34]
  have ho := okSch_iff.1 h
  have hl := ho.1
  refine Run (@eSch_eta) ?_; with_reducible repeat' (first | exact True.intro | refine Lf.mk ?_ ?_ | intro hb)
  refine Trn (α := Nat) [5, 7, 11, 12, 13, 14, 15, 16, 17, 18, 19, 20, 21, 22] (fun i => [(11, iT i)]) (fun i => [(4, .box 39 ((eSch s).map .im)), (8, .box 43 [.im (.sc (.int .i64 0)), .nl, .nl])]) (fun i => i ≤ s.length ∧ (s.take i).any (fun d => decide (d.name = name)) = false) (fun i => s.length - i) (0) (⟨Nat.zero_le _, rfl⟩) (@eSch_eta) ?_; intro lx hI; obtain i := lx; (try simp only [List.nil_append, List.cons_append] at hI ⊢)
  by_cases hlt : lx < s.length
  · by_cases hn : s[lx].name = name
    · have e := rowT_at hlt hI.2 hn
      rw [ht] at e; cases e
    · have gn := eq_false hn
      refine Run ((ai (ai @eSch_eta @eDecl_eta) (ai @hlt @gn))) ?_; with_reducible repeat' (first | exact True.intro | refine Lf.mk ?_ ?_ | intro hb)
      exact Nxt (@eSch_eta) (lx + 1) (⟨by omega, any_take hlt hI.2 (decide_eq_false hn)⟩) (by first | omega | (simp; omega))
  · refine Run ((ai @eSch_eta @hlt)) ?_; with_reducible repeat' (first | exact True.intro | refine Lf.mk ?_ ?_ | intro hb)

theorem implRowT_ok (s : List Decl) (h : okSch (2^20) s) (name : ByteArray) : FnP Tryz.prog 34 [agT (eSch s), sT name] (.tp [agT (eTy ((rowT s name).getD ty0)), bT (rowT s name).isSome]) := by
  cases ht : rowT s name with
  | some t => exact implRowT_a s h name t ht
  | none => exact (implRowT_b s h name ht).treeP rfl
def fc128A82 := (ai (ai (ai sz3 ag3) (ai zv3 (ai un3 sz70))) (ai (ai ag70 (ai zv70 sb70)) (ai un70 (ai el70 ap70))))
theorem clip_ok (ctx : List Decl) (h : ctx.length ≤ 2^40) : FnS Tryz.prog 128 [] [slT eDecl ctx] [] (.c (.ik ctx.length ctx.length (ctx.flatMap eDecl))) := by
  refine FnS.go [0, 2] [] Tryz.func128 rfl (fun kt kz => ?_)
  have fcx := fc128A82
  simp only [Tryz.f128]
  have h1 := eq_true (Int.le_refl (ctx.length : Int))
  have h2 : ctx.length - 0 = ctx.length := Nat.sub_zero _
  have h3 : List.take (ctx.length * 4) (List.flatMap eDecl ctx) = List.flatMap eDecl ctx := List.take_of_length_le (by rw [flatD_len]; exact Nat.le_refl _)
  refine Run ((ai @h1 (ai @h2 @h3))) ?_; with_reducible repeat' (first | exact True.intro | refine Lf.mk ?_ ?_ | intro hb)
def fc117A82 := (ai (ai (ai (ai sz9 (ai ag9 zv9)) (ai (ai un9 sz43) (ai ag43 zv43))) (ai (ai fl43_0 (ai fl43_1 fl43_2)) (ai (ai pl43 sz69) (ai ag69 zv69)))) (ai (ai (ai fl69_0 (ai fl69_1 pl69)) (ai (ai sz70 ag70) (ai zv70 sb70))) (ai (ai un70 (ai el70 ap70)) (ai (ai okf128 sz3) (ai sz25 sz41)))))
theorem with_ok (ctx : List Decl) (h : ctx.length ≤ 2^40) (name : ByteArray) (t : Ty) : FnS Tryz.prog 117 [] [slT eDecl ctx, sT name, agT (eTy t)] [] (slT eDecl (ctx ++ [⟨name, t⟩])) := by
  refine FnS.go [0, 1, 2, 5, 6] [] Tryz.func117 rfl (fun kt kz => ?_)
  have fcx := fc117A82
  simp only [Tryz.f117]
  have dx : Dx 8 8 0 := ⟨⟩
  have e1 : ctx.flatMap eDecl ++ [.sc (.string name), .sc (.int .i64 t.kind), .sl t.labels.length (t.labels.flatMap eS), .sl t.args.length (t.args.flatMap eTy)] = (ctx ++ [Decl.mk name t]).flatMap eDecl := by rw [List.flatMap_append, flat_one, eDecl_eta]; rfl
  have e2 : ctx.length + 1 = (ctx ++ [Decl.mk name t]).length := by simp
  have e3 := flatD_len ctx
  refine RunX ((ai (ai @eTy_eta @e1) (ai @e2 @e3))) ?_; with_reducible repeat' (first | exact True.intro | refine Lf.mk ?_ ?_ | intro hb)
  refine CalI (@eTy_eta) (clip_ok ctx h) ?_
  refine RunX ((ai (ai @eTy_eta @e1) (ai @e2 @e3))) ?_; with_reducible repeat' (first | exact True.intro | refine Lf.mk ?_ ?_ | intro hb)

end Go.VC.T
/- Nodes of terms, forms of terms: the program's side. -/
namespace Go.VC
open Go
noncomputable def shM (e : Tm) : Int := if e.kind = 4 then (opAr e.name : Int) else if e.kind = 5 then (e.labels.length : Int) else if e.kind = 6 ∨ e.kind = 8 ∨ e.kind = 13 ∨ e.kind = 15 ∨ e.kind = 16 then 1 else if e.kind = 9 ∨ e.kind = 10 ∨ e.kind = 14 then 2 else if e.kind = 11 then 3 else 0
def shN (e : Tm) : Bool := decide (nmK e.kind ∨ e.kind = 4)
def shT (e : Tm) : Bool := decide (tyK e.kind)
noncomputable def shO (e : Tm) : Bool := (arK e).isSome
theorem opAr_pos (s : ByteArray) : opAr s = 0 ∨ opAr s = 1 ∨ opAr s = 2 := by
  unfold opAr
  split
  · exact .inr (.inr rfl)
  · split
    · exact .inr (.inl rfl)
    · exact .inl rfl
theorem shM_of {e : Tm} (h : shO e = true) : arK e = some e.args.length ↔ (e.args.length : Int) = shM e := by
  unfold shO at h
  unfold arK shM at *
  by_cases h4 : e.kind = 4
  · simp only [h4, reduceIte, show ¬ ((4 : Int) = 1 ∨ (4 : Int) = 2 ∨ (4 : Int) = 3 ∨ (4 : Int) = 7 ∨ (4 : Int) = 12) by decide] at h ⊢
    split at h
    · simp at h
    · rename_i h0; simp only [h0, reduceIte, Option.some.injEq]; omega
  · by_cases h5 : e.kind = 5
    · simp only [h5, reduceIte, show ¬ ((5 : Int) = 1 ∨ (5 : Int) = 2 ∨ (5 : Int) = 3 ∨ (5 : Int) = 7 ∨ (5 : Int) = 12) by decide, show ¬ (5 : Int) = 4 by decide] at h ⊢
      split at h
      · rename_i h0; simp only [h0, reduceIte, Option.some.injEq]; omega
      · simp at h
    · simp only [h4, h5, if_false] at h ⊢
      split
      · rename_i h1
        have : ¬ (e.kind = 6 ∨ e.kind = 8 ∨ e.kind = 13 ∨ e.kind = 15 ∨ e.kind = 16) := by omega
        have a2 : ¬ (e.kind = 9 ∨ e.kind = 10 ∨ e.kind = 14) := by omega
        have a3 : ¬ e.kind = 11 := by omega
        simp only [this, a2, a3, if_false, Option.some.injEq]; omega
      · rename_i h1
        simp only [h1, if_false] at h
        split
        · simp only [Option.some.injEq]; omega
        · split
          · simp only [Option.some.injEq]; omega
          · split
            · simp only [Option.some.injEq]; omega
            · rename_i g1 g2 g3; simp [g1, g2, g3] at h
theorem shO_no {e : Tm} (h : shO e = false) : ¬ NdOk e := fun hn => by unfold shO at h; rw [hn.1] at h; simp at h
end Go.VC
namespace Go.VC.T
open Go Go.VC Go.Proofs Go.VC.F
def fc126A78 := (ai (ai (ai sz3 (ai ag3 zv3)) (ai un3 (ai sz4 ag4))) (ai (ai zv4 (ai un4 sz9)) (ai ag9 (ai zv9 un9))))
theorem opArity_ok (s : ByteArray) : FnS Tryz.prog 126 [] [sT s] [] (iT (opAr s : Int)) := by
  refine FnS.go [0, 2, 3, 4, 11] [] Tryz.func126 rfl (fun kt kz => ?_)
  have fcx := fc126A78
  simp only [Tryz.f126]
  by_cases h43 : s = ⟨#[43]⟩
  · have e : ((opAr s : Nat) : Int) = 2 := by simp [opAr, h43, opPlus, opMinus, opEq, opLt, opAnd, opOr]
    have g43 := eq_true h43
    refine Run ((ai @g43 @e)) ?_; with_reducible repeat' (first | exact True.intro | refine Lf.mk ?_ ?_ | intro hb)
  · have g43 := eq_false h43
    by_cases h45 : s = ⟨#[45]⟩
    · have e : ((opAr s : Nat) : Int) = 2 := by simp [opAr, h45, opPlus, opMinus, opEq, opLt, opAnd, opOr]
      have g45 := eq_true h45
      refine Run ((ai @g43 (ai @g45 @e))) ?_; with_reducible repeat' (first | exact True.intro | refine Lf.mk ?_ ?_ | intro hb)
    · have g45 := eq_false h45
      by_cases h61 : s = ⟨#[61]⟩
      · have e : ((opAr s : Nat) : Int) = 2 := by simp [opAr, h61, opPlus, opMinus, opEq, opLt, opAnd, opOr]
        have g61 := eq_true h61
        refine Run ((ai (ai @g43 @g45) (ai @g61 @e))) ?_; with_reducible repeat' (first | exact True.intro | refine Lf.mk ?_ ?_ | intro hb)
      · have g61 := eq_false h61
        by_cases h60 : s = ⟨#[60]⟩
        · have e : ((opAr s : Nat) : Int) = 2 := by simp [opAr, h60, opPlus, opMinus, opEq, opLt, opAnd, opOr]
          have g60 := eq_true h60
          refine Run ((ai (ai @g43 @g45) (ai @g61 (ai @g60 @e)))) ?_; with_reducible repeat' (first | exact True.intro | refine Lf.mk ?_ ?_ | intro hb)
        · have g60 := eq_false h60
          by_cases h38 : s = ⟨#[38]⟩
          · have e : ((opAr s : Nat) : Int) = 2 := by simp [opAr, h38, opPlus, opMinus, opEq, opLt, opAnd, opOr]
            have g38 := eq_true h38
            refine Run ((ai (ai @g43 (ai @g45 @g61)) (ai @g60 (ai @g38 @e)))) ?_; with_reducible repeat' (first | exact True.intro | refine Lf.mk ?_ ?_ | intro hb)
          · have g38 := eq_false h38
            by_cases h124 : s = ⟨#[124]⟩
            · have e : ((opAr s : Nat) : Int) = 2 := by simp [opAr, h124, opPlus, opMinus, opEq, opLt, opAnd, opOr]
              have g124 := eq_true h124
              refine Run ((ai (ai @g43 (ai @g45 @g61)) (ai (ai @g60 @g38) (ai @g124 @e)))) ?_; with_reducible repeat' (first | exact True.intro | refine Lf.mk ?_ ?_ | intro hb)
            · have g124 := eq_false h124
              by_cases h33 : s = ⟨#[33]⟩
              · have e : ((opAr s : Nat) : Int) = 1 := by simp [opAr, g43, g45, g61, g60, g38, g124, h33, opPlus, opMinus, opEq, opLt, opAnd, opOr, opNot]
                have g33 := eq_true h33
                refine Run ((ai (ai (ai @g43 @g45) (ai @g61 @g60)) (ai (ai @g38 @g124) (ai @g33 @e)))) ?_; with_reducible repeat' (first | exact True.intro | refine Lf.mk ?_ ?_ | intro hb)
              · have g33 := eq_false h33
                have e : ((opAr s : Nat) : Int) = 0 := by simp [opAr, g43, g45, g61, g60, g38, g124, g33, opPlus, opMinus, opEq, opLt, opAnd, opOr, opNot]
                refine Run ((ai (ai (ai @g43 @g45) (ai @g61 @g60)) (ai (ai @g38 @g124) (ai @g33 @e)))) ?_; with_reducible repeat' (first | exact True.intro | refine Lf.mk ?_ ?_ | intro hb)
def fc113A78 := (ai (ai (ai (ai sz3 (ai ag3 zv3)) (ai (ai un3 sz4) (ai ag4 zv4))) (ai (ai un4 (ai sz25 ag25)) (ai (ai zv25 sb25) (ai un25 el25)))) (ai (ai (ai ap25 (ai sz41 ag41)) (ai (ai zv41 sb41) (ai un41 el41))) (ai (ai (ai ap41 sz43) (ai ag43 zv43)) (ai (ai fl43_0 fl43_1) (ai fl43_2 pl43)))))
theorem zeroTy_ok (v : Ty) (h : okTy (2^20) v) : FnS Tryz.prog 113 [] [agT (eTy v)] [] (bT (decide (zeroTy v))) := by
  refine FnS.go [0, 1, 2] [] Tryz.func113 rfl (fun kt kz => ?_)
  have fcx := fc113A78
  simp only [Tryz.f113]
  have ho := okTy_iff.1 h
  have hno : ¬ zeroTy v → decide (zeroTy v) = false := decide_eq_false
  by_cases k : v.kind = 0
  · have gk := eq_true k
    by_cases hl : (v.labels.length : Int) = 0
    · have gl := eq_true hl
      have e : decide ((v.args.length : Int) = 0) = decide (zeroTy v) := decide_eq_decide.2 ⟨fun h => ⟨k, by omega, by omega⟩, fun h => by have := h.2.2; omega⟩
      refine Run ((ai (ai @eTy_eta @gk) (ai @gl @e))) ?_; with_reducible repeat' (first | exact True.intro | refine Lf.mk ?_ ?_ | intro hb)
    · have gl := eq_false hl
      have e := hno fun h => hl (by have := h.2.1; omega)
      refine Run ((ai (ai @eTy_eta @gk) (ai @gl @e))) ?_; with_reducible repeat' (first | exact True.intro | refine Lf.mk ?_ ?_ | intro hb)
  · have gk := eq_false k
    have e := hno fun h => k h.1
    refine Run ((ai @eTy_eta (ai @gk @e))) ?_; with_reducible repeat' (first | exact True.intro | refine Lf.mk ?_ ?_ | intro hb)
def fc112A78 := (ai (ai (ai (ai (ai sz3 ag3) (ai zv3 un3)) (ai (ai sz4 ag4) (ai zv4 (ai un4 sz9)))) (ai (ai (ai ag9 zv9) (ai un9 sz25)) (ai (ai ag25 zv25) (ai sb25 (ai un25 el25))))) (ai (ai (ai (ai ap25 sz46) (ai ag46 zv46)) (ai (ai fl46_0 fl46_1) (ai fl46_2 (ai fl46_3 fl46_4)))) (ai (ai (ai fl46_5 pl46) (ai sz77 (ai ag77 zv77))) (ai (ai un77 okf125) (ai okf126 (ai sz43 sz44))))))
theorem shape_ok (t : Tm) (h : okTm (2^20) t) (r : List IV) : FnS Tryz.prog 112 [] [.c (.im (.pt (eTm t ++ r)))] [] (.tp [iT (shM t), bT (shN t), bT (shT t), bT (shO t)]) := by
  refine FnS.go [0, 2, 3, 4, 5, 9, 10, 13, 16, 29, 41, 43, 45, 49, 52, 54, 56] [] Tryz.func112 rfl (fun kt kz => ?_)
  have fcx := fc112A78
  simp only [Tryz.f112]
  have ho := okTm_iff.1 h
  by_cases h1 : t.kind = 1
  · have e2 : shN t = true := by simp [shN, nmK, h1]
    have e3 : shT t = false := by simp [shT, tyK, h1]
    have e1 : shM t = 0 := by simp [shM, h1]
    have e4 : shO t = true := by simp [shO, arK, h1]
    refine Run ((ai (ai @eTm_eta (ai @eTy_eta @h1)) (ai (ai @e1 @e2) (ai @e3 @e4)))) ?_; with_reducible repeat' (first | exact True.intro | refine Lf.mk ?_ ?_ | intro hb)
  · have g1 := eq_false h1
    by_cases h12 : t.kind = 12
    · have e2 : shN t = true := by simp [shN, nmK, h12]
      have e3 : shT t = false := by simp [shT, tyK, h12]
      have e1 : shM t = 0 := by simp [shM, h12]
      have e4 : shO t = true := by simp [shO, arK, h12]
      refine Run ((ai (ai @eTm_eta (ai @eTy_eta @h12)) (ai (ai @e1 @e2) (ai @e3 @e4)))) ?_; with_reducible repeat' (first | exact True.intro | refine Lf.mk ?_ ?_ | intro hb)
    · have g12 := eq_false h12
      by_cases h2 : t.kind = 2
      · have e2 : shN t = false := by simp [shN, nmK, h2]
        have e3 : shT t = false := by simp [shT, tyK, h2]
        have e1 : shM t = 0 := by simp [shM, h2]
        have e4 : shO t = true := by simp [shO, arK, h2]
        refine Run ((ai (ai @eTm_eta (ai @eTy_eta @h2)) (ai (ai @e1 @e2) (ai @e3 @e4)))) ?_; with_reducible repeat' (first | exact True.intro | refine Lf.mk ?_ ?_ | intro hb)
      · have g2 := eq_false h2
        by_cases h3 : t.kind = 3
        · have e2 : shN t = false := by simp [shN, nmK, h3]
          have e3 : shT t = false := by simp [shT, tyK, h3]
          have e1 : shM t = 0 := by simp [shM, h3]
          have e4 : shO t = true := by simp [shO, arK, h3]
          refine Run ((ai (ai @eTm_eta (ai @eTy_eta @h3)) (ai (ai @e1 @e2) (ai @e3 @e4)))) ?_; with_reducible repeat' (first | exact True.intro | refine Lf.mk ?_ ?_ | intro hb)
        · have g3 := eq_false h3
          by_cases h4 : t.kind = 4
          · have e2 : shN t = true := by simp [shN, nmK, h4]
            have e3 : shT t = false := by simp [shT, tyK, h4]
            have e1 : shM t = (opAr t.name : Int) := by simp [shM, h4]
            have e4 : decide ((0 : Int) < (opAr t.name : Int)) = shO t := by
              unfold shO arK
              rcases opAr_pos t.name with h | h | h <;> simp [h4, h]
            refine Run ((ai @eTm_eta (ai @eTy_eta @h4))) ?_; with_reducible repeat' (first | exact True.intro | refine Lf.mk ?_ ?_ | intro hb)
            refine Cal ((ai @eTm_eta @eTy_eta)) (opArity_ok t.name) ?_
            refine Run ((ai @eTm_eta @eTy_eta)) ?_; with_reducible repeat' (first | exact True.intro | refine Lf.mk ?_ ?_ | intro hb)
            refine Cal ((ai @eTm_eta @eTy_eta)) (opArity_ok t.name) ?_
            refine Run ((ai (ai @eTm_eta (ai @eTy_eta @e1)) (ai @e2 (ai @e3 @e4)))) ?_; with_reducible repeat' (first | exact True.intro | refine Lf.mk ?_ ?_ | intro hb)
          · have g4 := eq_false h4
            by_cases h5 : t.kind = 5
            · have e2 : shN t = false := by simp [shN, nmK, h5]
              have e3 : shT t = false := by simp [shT, tyK, h5]
              have e1 : shM t = (t.labels.length : Int) := by simp [shM, h5]
              have e4 : decide (LabsOk t.labels) = shO t := by
                unfold shO arK
                by_cases h : LabsOk t.labels <;> simp [h5, h]
              refine Run ((ai @eTm_eta (ai @eTy_eta @h5))) ?_; with_reducible repeat' (first | exact True.intro | refine Lf.mk ?_ ?_ | intro hb)
              refine Cal ((ai @eTm_eta @eTy_eta)) (implLabs_ok t.labels ho.2.2.2.2.1) ?_
              refine Run ((ai (ai @eTm_eta (ai @eTy_eta @e1)) (ai @e2 (ai @e3 @e4)))) ?_; with_reducible repeat' (first | exact True.intro | refine Lf.mk ?_ ?_ | intro hb)
            · have g5 := eq_false h5
              by_cases h6 : t.kind = 6
              · have e2 : shN t = true := by simp [shN, nmK, h6]
                have e3 : shT t = false := by simp [shT, tyK, h6]
                have e1 : shM t = 1 := by simp [shM, h6]
                have e4 : shO t = true := by simp [shO, arK, h6]
                refine Run ((ai (ai @eTm_eta (ai @eTy_eta @h6)) (ai (ai @e1 @e2) (ai @e3 @e4)))) ?_; with_reducible repeat' (first | exact True.intro | refine Lf.mk ?_ ?_ | intro hb)
              · have g6 := eq_false h6
                by_cases h7 : t.kind = 7
                · have e2 : shN t = false := by simp [shN, nmK, h7]
                  have e3 : shT t = true := by simp [shT, tyK, h7]
                  have e1 : shM t = 0 := by simp [shM, h7]
                  have e4 : shO t = true := by simp [shO, arK, h7]
                  refine Run ((ai (ai @eTm_eta (ai @eTy_eta @h7)) (ai (ai @e1 @e2) (ai @e3 @e4)))) ?_; with_reducible repeat' (first | exact True.intro | refine Lf.mk ?_ ?_ | intro hb)
                · have g7 := eq_false h7
                  by_cases h8 : t.kind = 8
                  · have e2 : shN t = false := by simp [shN, nmK, h8]
                    have e3 : shT t = false := by simp [shT, tyK, h8]
                    have e1 : shM t = 1 := by simp [shM, h8]
                    have e4 : shO t = true := by simp [shO, arK, h8]
                    refine Run ((ai (ai @eTm_eta (ai @eTy_eta @h8)) (ai (ai @e1 @e2) (ai @e3 @e4)))) ?_; with_reducible repeat' (first | exact True.intro | refine Lf.mk ?_ ?_ | intro hb)
                  · have g8 := eq_false h8
                    by_cases h15 : t.kind = 15
                    · have e2 : shN t = false := by simp [shN, nmK, h15]
                      have e3 : shT t = false := by simp [shT, tyK, h15]
                      have e1 : shM t = 1 := by simp [shM, h15]
                      have e4 : shO t = true := by simp [shO, arK, h15]
                      refine Run ((ai (ai @eTm_eta (ai @eTy_eta @h15)) (ai (ai @e1 @e2) (ai @e3 @e4)))) ?_; with_reducible repeat' (first | exact True.intro | refine Lf.mk ?_ ?_ | intro hb)
                    · have g15 := eq_false h15
                      by_cases h16 : t.kind = 16
                      · have e2 : shN t = false := by simp [shN, nmK, h16]
                        have e3 : shT t = false := by simp [shT, tyK, h16]
                        have e1 : shM t = 1 := by simp [shM, h16]
                        have e4 : shO t = true := by simp [shO, arK, h16]
                        refine Run ((ai (ai @eTm_eta (ai @eTy_eta @h16)) (ai (ai @e1 @e2) (ai @e3 @e4)))) ?_; with_reducible repeat' (first | exact True.intro | refine Lf.mk ?_ ?_ | intro hb)
                      · have g16 := eq_false h16
                        by_cases h9 : t.kind = 9
                        · have e2 : shN t = false := by simp [shN, nmK, h9]
                          have e3 : shT t = false := by simp [shT, tyK, h9]
                          have e1 : shM t = 2 := by simp [shM, h9]
                          have e4 : shO t = true := by simp [shO, arK, h9]
                          refine Run ((ai (ai @eTm_eta (ai @eTy_eta @h9)) (ai (ai @e1 @e2) (ai @e3 @e4)))) ?_; with_reducible repeat' (first | exact True.intro | refine Lf.mk ?_ ?_ | intro hb)
                        · have g9 := eq_false h9
                          by_cases h14 : t.kind = 14
                          · have e2 : shN t = false := by simp [shN, nmK, h14]
                            have e3 : shT t = false := by simp [shT, tyK, h14]
                            have e1 : shM t = 2 := by simp [shM, h14]
                            have e4 : shO t = true := by simp [shO, arK, h14]
                            refine Run ((ai (ai @eTm_eta (ai @eTy_eta @h14)) (ai (ai @e1 @e2) (ai @e3 @e4)))) ?_; with_reducible repeat' (first | exact True.intro | refine Lf.mk ?_ ?_ | intro hb)
                          · have g14 := eq_false h14
                            by_cases h10 : t.kind = 10
                            · have e2 : shN t = true := by simp [shN, nmK, h10]
                              have e3 : shT t = false := by simp [shT, tyK, h10]
                              have e1 : shM t = 2 := by simp [shM, h10]
                              have e4 : shO t = true := by simp [shO, arK, h10]
                              refine Run ((ai (ai @eTm_eta (ai @eTy_eta @h10)) (ai (ai @e1 @e2) (ai @e3 @e4)))) ?_; with_reducible repeat' (first | exact True.intro | refine Lf.mk ?_ ?_ | intro hb)
                            · have g10 := eq_false h10
                              by_cases h11 : t.kind = 11
                              · have e2 : shN t = false := by simp [shN, nmK, h11]
                                have e3 : shT t = false := by simp [shT, tyK, h11]
                                have e1 : shM t = 3 := by simp [shM, h11]
                                have e4 : shO t = true := by simp [shO, arK, h11]
                                refine Run ((ai (ai @eTm_eta (ai @eTy_eta @h11)) (ai (ai @e1 @e2) (ai @e3 @e4)))) ?_; with_reducible repeat' (first | exact True.intro | refine Lf.mk ?_ ?_ | intro hb)
                              · have g11 := eq_false h11
                                by_cases h13 : t.kind = 13
                                · have e2 : shN t = true := by simp [shN, nmK, h13]
                                  have e3 : shT t = true := by simp [shT, tyK, h13]
                                  have e1 : shM t = 1 := by simp [shM, h13]
                                  have e4 : shO t = true := by simp [shO, arK, h13]
                                  refine Run ((ai (ai @eTm_eta (ai @eTy_eta @h13)) (ai (ai @e1 @e2) (ai @e3 @e4)))) ?_; with_reducible repeat' (first | exact True.intro | refine Lf.mk ?_ ?_ | intro hb)
                                · have g13 := eq_false h13
                                  have e1 : shM t = 0 := by simp [shM, g1, g12, g2, g3, g4, g5, g6, g7, g8, g15, g16, g9, g14, g10, g11, g13]
                                  have e2 : shN t = false := by simp [shN, nmK, g1, g12, g2, g3, g4, g5, g6, g7, g8, g15, g16, g9, g14, g10, g11, g13]
                                  have e3 : shT t = false := by simp [shT, tyK, g1, g12, g2, g3, g4, g5, g6, g7, g8, g15, g16, g9, g14, g10, g11, g13]
                                  have e4 : shO t = false := by simp [shO, arK, g1, g12, g2, g3, g4, g5, g6, g7, g8, g15, g16, g9, g14, g10, g11, g13]
                                  refine Run ((ai (ai (ai (ai @eTm_eta @eTy_eta) (ai @g1 (ai @g12 @g2))) (ai (ai @g3 (ai @g4 @g5)) (ai @g6 (ai @g7 @g8)))) (ai (ai (ai @g15 @g16) (ai @g9 (ai @g14 @g10))) (ai (ai @g11 (ai @g13 @e1)) (ai @e2 (ai @e3 @e4)))))) ?_; with_reducible repeat' (first | exact True.intro | refine Lf.mk ?_ ?_ | intro hb)

end Go.VC.T
/- Types of fields, of operations: the program's side. -/
namespace Go.VC
open Go
theorem fieldT_no {t : Ty} {l : ByteArray} (h : ¬ (TyOk t ∧ t.kind = 3 ∧ 0 ≤ idxI (fun x => decide (x = l)) t.labels)) : fieldT t l = none := by unfold fieldT; rw [if_neg h]
theorem fieldT_at {t : Ty} {l : ByteArray} (h : TyOk t ∧ t.kind = 3 ∧ 0 ≤ idxI (fun x => decide (x = l)) t.labels) : ∃ j : Nat, idxI (fun x => decide (x = l)) t.labels = j ∧ ∃ h : j < t.args.length, fieldT t l = some t.args[j] := by
  obtain ⟨j, hj, hl⟩ := idx_lt h.2.2
  have hr := (h.1.rec h.2.1).2
  have hja : j < t.args.length := by omega
  refine ⟨j, hj, hja, ?_⟩
  unfold fieldT
  rw [if_pos h, hj]
  simp [hja]
end Go.VC
namespace Go.VC.T
open Go Go.VC Go.Proofs Go.VC.F
def fc130A83 := (ai (ai (ai (ai (ai sz3 ag3) (ai zv3 un3)) (ai (ai sz4 ag4) (ai zv4 (ai un4 sz9)))) (ai (ai (ai ag9 zv9) (ai un9 sz25)) (ai (ai ag25 zv25) (ai sb25 (ai un25 el25))))) (ai (ai (ai (ai ap25 sz41) (ai ag41 zv41)) (ai (ai sb41 un41) (ai el41 (ai ap41 sz43)))) (ai (ai (ai ag43 zv43) (ai fl43_0 fl43_1)) (ai (ai fl43_2 pl43) (ai okf42 (ai okf49 okf95))))))
theorem implField_a (t : Ty) (h : okTy (2^20) t) (hz : zTy t ≤ 2^40) (l : ByteArray) (ht : TyOk t ∧ t.kind = 3 ∧ 0 ≤ idxI (fun x => decide (x = l)) t.labels) (u : Ty) (hu : fieldT t l = some u) : FnS Tryz.prog 130 [] [agT (eTy t), sT l] [] (.tp [agT (eTy u), bT true]) := by
  refine FnS.go [0, 1, 2, 4, 5, 6, 22] [] Tryz.func130 rfl (fun kt kz => ?_)
  have fcx := fc130A83
  simp only [Tryz.f130]
  have ho := okTy_iff.1 h
  obtain ⟨j, hj, hja, e⟩ := fieldT_at ht
  obtain rfl : u = t.args[j] := by rw [hu] at e; exact Option.some.inj e
  have g1 := eq_true ht.1
  have g2 := ht.2.1
  have g3 : ((j : Int) < 0) = False := eq_false (by omega)
  refine Run (@eTy_eta) ?_; with_reducible repeat' (first | exact True.intro | refine Lf.mk ?_ ?_ | intro hb)
  refine Cal (@eTy_eta) (slIdxS_ok t.labels l (by have := ho.2.1.1; omega)) ?_
  refine Run ((ai @eTy_eta @hj)) ?_; with_reducible repeat' (first | exact True.intro | refine Lf.mk ?_ ?_ | intro hb)
  refine Cal (@eTy_eta) (implTyOk_ok t h hz) ?_
  refine Run ((ai (ai @eTy_eta (ai @hj @g1)) (ai @g2 (ai @g3 @hja)))) ?_; with_reducible repeat' (first | exact True.intro | refine Lf.mk ?_ ?_ | intro hb)
  refine CalI (@eTy_eta) (cloneTy_ok t.args[j] (ho.2.2.2 _ (List.getElem_mem hja))) ?_
  refine Run (@eTy_eta) ?_; with_reducible repeat' (first | exact True.intro | refine Lf.mk ?_ ?_ | intro hb)
theorem implField_b (t : Ty) (h : okTy (2^20) t) (hz : zTy t ≤ 2^40) (l : ByteArray) (ht : ¬ (TyOk t ∧ t.kind = 3 ∧ 0 ≤ idxI (fun x => decide (x = l)) t.labels)) : FnS Tryz.prog 130 [] [agT (eTy t), sT l] [] (.tp [.ag [.im (.sc (.int .i64 0)), .nl, .nl], bT false]) := by
  refine FnS.go [0, 1, 2, 4, 5, 6, 22] [] Tryz.func130 rfl (fun kt kz => ?_)
  have fcx := fc130A83
  simp only [Tryz.f130]
  have ho := okTy_iff.1 h
  refine Run (@eTy_eta) ?_; with_reducible repeat' (first | exact True.intro | refine Lf.mk ?_ ?_ | intro hb)
  refine Cal (@eTy_eta) (slIdxS_ok t.labels l (by have := ho.2.1.1; omega)) ?_
  refine Run (@eTy_eta) ?_; with_reducible repeat' (first | exact True.intro | refine Lf.mk ?_ ?_ | intro hb)
  refine Cal (@eTy_eta) (implTyOk_ok t h hz) ?_
  by_cases h1 : TyOk t
  · have g1 := eq_true h1
    by_cases h2 : t.kind = 3
    · have g2 := eq_true h2
      have g3 : (idxI (fun x => decide (x = l)) t.labels < 0) = True := eq_true (by have : ¬ 0 ≤ idxI (fun x => decide (x = l)) t.labels := fun h => ht ⟨h1, h2, h⟩; omega)
      refine Run ((ai (ai @eTy_eta @g1) (ai @g2 @g3))) ?_; with_reducible repeat' (first | exact True.intro | refine Lf.mk ?_ ?_ | intro hb)
    · have g2 := eq_false h2
      refine Run ((ai @eTy_eta (ai @g1 @g2))) ?_; with_reducible repeat' (first | exact True.intro | refine Lf.mk ?_ ?_ | intro hb)
  · have g1 := eq_false h1
    refine Run ((ai @eTy_eta @g1)) ?_; with_reducible repeat' (first | exact True.intro | refine Lf.mk ?_ ?_ | intro hb)

theorem implField_ok (t : Ty) (h : okTy (2^20) t) (hz : zTy t ≤ 2^40) (l : ByteArray) : FnP Tryz.prog 130 [agT (eTy t), sT l] (.tp [agT (eTy ((fieldT t l).getD ty0)), bT (fieldT t l).isSome]) := by
  by_cases ht : TyOk t ∧ t.kind = 3 ∧ 0 ≤ idxI (fun x => decide (x = l)) t.labels
  · obtain ⟨j, _, hj, e⟩ := fieldT_at ht
    rw [e]
    exact implField_a t h hz l ht _ e
  · rw [fieldT_no ht]
    exact (implField_b t h hz l ht).treeP rfl
def fc134A83 := (ai (ai (ai (ai sz3 ag3) (ai zv3 un3)) (ai (ai sz4 ag4) (ai zv4 un4))) (ai (ai (ai sz43 ag43) (ai zv43 fl43_0)) (ai (ai fl43_1 fl43_2) (ai pl43 (ai sz25 sz41)))))
theorem implOp1_ok (w : Int) (t : Ty) : FnS Tryz.prog 134 [] [agT (eTy t), .c (.im (.pt [.sc (.int .i64 w)]))] [] (bT (!decide (t.kind = w))) := by
  refine FnS.go [0, 1, 2, 3] [] Tryz.func134 rfl (fun kt kz => ?_)
  have fcx := fc134A83
  simp only [Tryz.f134]
  refine Run (@eTy_eta) ?_; with_reducible repeat' (first | exact True.intro | refine Lf.mk ?_ ?_ | intro hb)
def fc111A83 := (ai (ai (ai (ai sz3 (ai ag3 zv3)) (ai un3 (ai sz4 ag4))) (ai (ai zv4 (ai un4 sz41)) (ai (ai ag41 zv41) (ai sb41 un41)))) (ai (ai (ai el41 (ai ap41 sz43)) (ai ag43 (ai zv43 fl43_0))) (ai (ai fl43_1 (ai fl43_2 pl43)) (ai (ai sz98 ag98) (ai zv98 sz25)))))
theorem slIdxTyC_ok (g : Nat) (hg : fnOk Tryz.prog g = true) (c : IV) (p : Ty → Bool) (xs : List Ty) (hx : xs.length ≤ 2^48) (H : ∀ x ∈ xs, FnP Tryz.prog g [agT (eTy x), .c (.im c)] (bT (p x))) : FnS Tryz.prog 111 [] [slT eTy xs, .c (.im (.fn g [c]))] [] (iT (idxI p xs)) := by
  refine FnS.go [0, 1, 4, 5, 7, 8, 9, 16] [] Tryz.func111 rfl (fun kt kz => ?_)
  have fcx := fc111A83
  simp only [Tryz.f111]
  refine Run (cast_succ) ?_; with_reducible repeat' (first | exact True.intro | refine Lf.mk ?_ ?_ | intro hb)
  refine Trn (α := Nat) [4, 5, 8, 9, 10, 11, 12, 13, 14, 15, 16, 17, 18] (fun i => [(8, iT i)]) (fun i => []) (fun i => i ≤ xs.length ∧ (xs.take i).any p = false) (fun i => xs.length - i) (0) (⟨Nat.zero_le _, rfl⟩) (cast_succ) ?_; intro lx hI; obtain i := lx; (try simp only [List.nil_append, List.cons_append] at hI ⊢)
  by_cases hlt : lx < xs.length
  · refine Run ((ai @hlt (ai @eTy_eta @hg))) ?_; with_reducible repeat' (first | exact True.intro | refine Lf.mk ?_ ?_ | intro hb)
    refine Cal (@eTy_eta) (H _ (List.getElem_mem hlt)) ?_
    refine Run (cast_succ) ?_; with_reducible repeat' (first | exact True.intro | refine Lf.mk ?_ ?_ | intro hb)
    · rw [idx_at hlt hI.2 hb]
    · exact Nxt (cast_succ) (lx + 1) (⟨by omega, any_take hlt hI.2 hb⟩) (by first | omega | (simp; omega))
  · have ha := any_all (by omega) hI.2
    refine Run (@hlt) ?_; with_reducible repeat' (first | exact True.intro | refine Lf.mk ?_ ?_ | intro hb)
    rw [idx_no ha]
def fc96A83 := (ai (ai (ai (ai sz3 ag3) (ai zv3 un3)) (ai (ai sz4 ag4) (ai zv4 (ai un4 sz41)))) (ai (ai (ai ag41 zv41) (ai sb41 (ai un41 el41))) (ai (ai ap41 sz98) (ai ag98 (ai zv98 okf111)))))
theorem slHasTyC_ok (g : Nat) (hg : fnOk Tryz.prog g = true) (c : IV) (p : Ty → Bool) (xs : List Ty) (hx : xs.length ≤ 2^48) (H : ∀ x ∈ xs, FnP Tryz.prog g [agT (eTy x), .c (.im c)] (bT (p x))) : FnS Tryz.prog 96 [] [slT eTy xs, .c (.im (.fn g [c]))] [] (bT (xs.any p)) := by
  refine FnS.go [0, 1, 4] [] Tryz.func96 rfl (fun kt kz => ?_)
  have fcx := fc96A83
  simp only [Tryz.f96]
  refine Run (cast_succ) ?_; with_reducible repeat' (first | exact True.intro | refine Lf.mk ?_ ?_ | intro hb)
  refine Cal (cast_succ) (slIdxTyC_ok g hg c p xs hx H) ?_
  refine Run ((idx_ge (p := p) (l := xs))) ?_; with_reducible repeat' (first | exact True.intro | refine Lf.mk ?_ ?_ | intro hb)

end Go.VC.T
/- Types of operations and of forms that bind nothing: the program's side. -/
namespace Go.VC
open Go
/-- A function that hands back a type and whether there is one. -/
def TyRes (P : Program) (g : FuncId) (args : List TV) (o : Option Ty) : Prop := ∃ t' : Ty, FnP P g args (.tp [agT (eTy t'), bT o.isSome]) ∧ ∀ t, o = some t → t' = t
theorem TyRes.mk {P : Program} {g : FuncId} {args : List TV} {o : Option Ty} {t' : Ty} {b : Bool} (h : FnP P g args (.tp [agT (eTy t'), bT b])) (hb : b = o.isSome) (ht : ∀ t, o = some t → t' = t) : TyRes P g args o := ⟨t', hb ▸ h, ht⟩
theorem TyRes.yes {P : Program} {g : FuncId} {args : List TV} {t : Ty} (h : TyRes P g args (some t)) : FnP P g args (.tp [agT (eTy t), bT true]) := by
  obtain ⟨t', h, ht⟩ := h
  obtain rfl := ht t rfl
  exact h
theorem TyRes.no {P : Program} {g : FuncId} {args : List TV} (h : TyRes P g args none) : ∃ t' : Ty, FnP P g args (.tp [agT (eTy t'), bT false]) := by
  obtain ⟨t', h, _⟩ := h
  exact ⟨t', h⟩
theorem opT_eq (s : ByteArray) (t : List Ty) : opT s t = if (!t.any fun a => !decide (a.kind = if s = opAnd ∨ s = opOr ∨ s = opNot then 2 else 1)) = true then some (if s = opPlus ∨ s = opMinus then tInt else tBool) else none := by
  unfold opT
  have : (t.all fun a => decide (a.kind = if s = opAnd ∨ s = opOr ∨ s = opNot then 2 else 1)) = (!t.any fun a => !decide (a.kind = if s = opAnd ∨ s = opOr ∨ s = opNot then 2 else 1)) := by
    rw [List.all_eq_not_any_not]
  rw [this]
end Go.VC
namespace Go.VC.T
open Go Go.VC Go.Proofs Go.VC.F
def fc129A84 := (ai (ai (ai (ai (ai sz3 ag3) (ai zv3 un3)) (ai (ai sz4 ag4) (ai zv4 un4))) (ai (ai (ai sz9 ag9) (ai zv9 un9)) (ai (ai sz41 ag41) (ai zv41 sb41)))) (ai (ai (ai (ai un41 el41) (ai ap41 sz43)) (ai (ai ag43 zv43) (ai fl43_0 fl43_1))) (ai (ai (ai fl43_2 pl43) (ai sz98 ag98)) (ai (ai zv98 okf96) (ai okf134 sz25)))))
theorem implOp_43 (t : List Ty) (h : t.length ≤ 2^20) : FnS Tryz.prog 129 [] [sT ⟨#[43]⟩, slT eTy t] [] (.tp [.ag [.im (.sc (.int .i64 1)), .nl, .nl], bT (!t.any fun a => !decide (a.kind = 1))]) := by
  refine FnS.go [0, 1, 4, 5, 6, 7, 8, 9, 12] [] Tryz.func129 rfl (fun kt kz => ?_)
  have fcx := fc129A84
  simp only [Tryz.f129]
  have hg : fnOk Tryz.prog 134 = true := by decide +kernel
  have n61 : ((⟨#[43]⟩ : ByteArray) = ⟨#[61]⟩) = False := eq_false (by simp)
  have n60 : ((⟨#[43]⟩ : ByteArray) = ⟨#[60]⟩) = False := eq_false (by simp)
  have n38 : ((⟨#[43]⟩ : ByteArray) = ⟨#[38]⟩) = False := eq_false (by simp)
  have n124 : ((⟨#[43]⟩ : ByteArray) = ⟨#[124]⟩) = False := eq_false (by simp)
  have n33 : ((⟨#[43]⟩ : ByteArray) = ⟨#[33]⟩) = False := eq_false (by simp)
  refine Run ((ai (ai @hg (ai @n61 @n60)) (ai @n38 (ai @n124 @n33)))) ?_; with_reducible repeat' (first | exact True.intro | refine Lf.mk ?_ ?_ | intro hb)
  refine Cal (cast_succ) (slHasTyC_ok 134 hg (.pt [.sc (.int .i64 1)]) (fun a => !decide (a.kind = 1)) t (by omega) (fun x _ => implOp1_ok 1 x)) ?_
  refine Run (cast_succ) ?_; with_reducible repeat' (first | exact True.intro | refine Lf.mk ?_ ?_ | intro hb)
theorem implOp_45 (t : List Ty) (h : t.length ≤ 2^20) : FnS Tryz.prog 129 [] [sT ⟨#[45]⟩, slT eTy t] [] (.tp [.ag [.im (.sc (.int .i64 1)), .nl, .nl], bT (!t.any fun a => !decide (a.kind = 1))]) := by
  refine FnS.go [0, 1, 4, 5, 6, 7, 8, 9, 12] [] Tryz.func129 rfl (fun kt kz => ?_)
  have fcx := fc129A84
  simp only [Tryz.f129]
  have hg : fnOk Tryz.prog 134 = true := by decide +kernel
  have n61 : ((⟨#[45]⟩ : ByteArray) = ⟨#[61]⟩) = False := eq_false (by simp)
  have n60 : ((⟨#[45]⟩ : ByteArray) = ⟨#[60]⟩) = False := eq_false (by simp)
  have n38 : ((⟨#[45]⟩ : ByteArray) = ⟨#[38]⟩) = False := eq_false (by simp)
  have n124 : ((⟨#[45]⟩ : ByteArray) = ⟨#[124]⟩) = False := eq_false (by simp)
  have n33 : ((⟨#[45]⟩ : ByteArray) = ⟨#[33]⟩) = False := eq_false (by simp)
  refine Run ((ai (ai @hg (ai @n61 @n60)) (ai @n38 (ai @n124 @n33)))) ?_; with_reducible repeat' (first | exact True.intro | refine Lf.mk ?_ ?_ | intro hb)
  refine Cal (cast_succ) (slHasTyC_ok 134 hg (.pt [.sc (.int .i64 1)]) (fun a => !decide (a.kind = 1)) t (by omega) (fun x _ => implOp1_ok 1 x)) ?_
  refine Run (cast_succ) ?_; with_reducible repeat' (first | exact True.intro | refine Lf.mk ?_ ?_ | intro hb)
theorem implOp_61 (t : List Ty) (h : t.length ≤ 2^20) : FnS Tryz.prog 129 [] [sT ⟨#[61]⟩, slT eTy t] [] (.tp [.ag [.im (.sc (.int .i64 2)), .nl, .nl], bT (!t.any fun a => !decide (a.kind = 1))]) := by
  refine FnS.go [0, 1, 4, 5, 6, 7, 8, 9, 12] [] Tryz.func129 rfl (fun kt kz => ?_)
  have fcx := fc129A84
  simp only [Tryz.f129]
  have hg : fnOk Tryz.prog 134 = true := by decide +kernel
  have n60 : ((⟨#[61]⟩ : ByteArray) = ⟨#[60]⟩) = False := eq_false (by simp)
  have n38 : ((⟨#[61]⟩ : ByteArray) = ⟨#[38]⟩) = False := eq_false (by simp)
  have n124 : ((⟨#[61]⟩ : ByteArray) = ⟨#[124]⟩) = False := eq_false (by simp)
  have n33 : ((⟨#[61]⟩ : ByteArray) = ⟨#[33]⟩) = False := eq_false (by simp)
  refine Run ((ai (ai @hg @n60) (ai @n38 (ai @n124 @n33)))) ?_; with_reducible repeat' (first | exact True.intro | refine Lf.mk ?_ ?_ | intro hb)
  refine Cal (cast_succ) (slHasTyC_ok 134 hg (.pt [.sc (.int .i64 1)]) (fun a => !decide (a.kind = 1)) t (by omega) (fun x _ => implOp1_ok 1 x)) ?_
  refine Run (cast_succ) ?_; with_reducible repeat' (first | exact True.intro | refine Lf.mk ?_ ?_ | intro hb)
theorem implOp_60 (t : List Ty) (h : t.length ≤ 2^20) : FnS Tryz.prog 129 [] [sT ⟨#[60]⟩, slT eTy t] [] (.tp [.ag [.im (.sc (.int .i64 2)), .nl, .nl], bT (!t.any fun a => !decide (a.kind = 1))]) := by
  refine FnS.go [0, 1, 4, 5, 6, 7, 8, 9, 12] [] Tryz.func129 rfl (fun kt kz => ?_)
  have fcx := fc129A84
  simp only [Tryz.f129]
  have hg : fnOk Tryz.prog 134 = true := by decide +kernel
  have n61 : ((⟨#[60]⟩ : ByteArray) = ⟨#[61]⟩) = False := eq_false (by simp)
  have n38 : ((⟨#[60]⟩ : ByteArray) = ⟨#[38]⟩) = False := eq_false (by simp)
  have n124 : ((⟨#[60]⟩ : ByteArray) = ⟨#[124]⟩) = False := eq_false (by simp)
  have n33 : ((⟨#[60]⟩ : ByteArray) = ⟨#[33]⟩) = False := eq_false (by simp)
  refine Run ((ai (ai @hg @n61) (ai @n38 (ai @n124 @n33)))) ?_; with_reducible repeat' (first | exact True.intro | refine Lf.mk ?_ ?_ | intro hb)
  refine Cal (cast_succ) (slHasTyC_ok 134 hg (.pt [.sc (.int .i64 1)]) (fun a => !decide (a.kind = 1)) t (by omega) (fun x _ => implOp1_ok 1 x)) ?_
  refine Run (cast_succ) ?_; with_reducible repeat' (first | exact True.intro | refine Lf.mk ?_ ?_ | intro hb)
theorem implOp_38 (t : List Ty) (h : t.length ≤ 2^20) : FnS Tryz.prog 129 [] [sT ⟨#[38]⟩, slT eTy t] [] (.tp [.ag [.im (.sc (.int .i64 2)), .nl, .nl], bT (!t.any fun a => !decide (a.kind = 2))]) := by
  refine FnS.go [0, 1, 4, 5, 6, 7, 8, 9, 12] [] Tryz.func129 rfl (fun kt kz => ?_)
  have fcx := fc129A84
  simp only [Tryz.f129]
  have hg : fnOk Tryz.prog 134 = true := by decide +kernel
  have n61 : ((⟨#[38]⟩ : ByteArray) = ⟨#[61]⟩) = False := eq_false (by simp)
  have n60 : ((⟨#[38]⟩ : ByteArray) = ⟨#[60]⟩) = False := eq_false (by simp)
  have n124 : ((⟨#[38]⟩ : ByteArray) = ⟨#[124]⟩) = False := eq_false (by simp)
  have n33 : ((⟨#[38]⟩ : ByteArray) = ⟨#[33]⟩) = False := eq_false (by simp)
  refine Run ((ai (ai @hg @n61) (ai @n60 (ai @n124 @n33)))) ?_; with_reducible repeat' (first | exact True.intro | refine Lf.mk ?_ ?_ | intro hb)
  refine Cal (cast_succ) (slHasTyC_ok 134 hg (.pt [.sc (.int .i64 2)]) (fun a => !decide (a.kind = 2)) t (by omega) (fun x _ => implOp1_ok 2 x)) ?_
  refine Run (cast_succ) ?_; with_reducible repeat' (first | exact True.intro | refine Lf.mk ?_ ?_ | intro hb)
theorem implOp_124 (t : List Ty) (h : t.length ≤ 2^20) : FnS Tryz.prog 129 [] [sT ⟨#[124]⟩, slT eTy t] [] (.tp [.ag [.im (.sc (.int .i64 2)), .nl, .nl], bT (!t.any fun a => !decide (a.kind = 2))]) := by
  refine FnS.go [0, 1, 4, 5, 6, 7, 8, 9, 12] [] Tryz.func129 rfl (fun kt kz => ?_)
  have fcx := fc129A84
  simp only [Tryz.f129]
  have hg : fnOk Tryz.prog 134 = true := by decide +kernel
  have n61 : ((⟨#[124]⟩ : ByteArray) = ⟨#[61]⟩) = False := eq_false (by simp)
  have n60 : ((⟨#[124]⟩ : ByteArray) = ⟨#[60]⟩) = False := eq_false (by simp)
  have n38 : ((⟨#[124]⟩ : ByteArray) = ⟨#[38]⟩) = False := eq_false (by simp)
  have n33 : ((⟨#[124]⟩ : ByteArray) = ⟨#[33]⟩) = False := eq_false (by simp)
  refine Run ((ai (ai @hg @n61) (ai @n60 (ai @n38 @n33)))) ?_; with_reducible repeat' (first | exact True.intro | refine Lf.mk ?_ ?_ | intro hb)
  refine Cal (cast_succ) (slHasTyC_ok 134 hg (.pt [.sc (.int .i64 2)]) (fun a => !decide (a.kind = 2)) t (by omega) (fun x _ => implOp1_ok 2 x)) ?_
  refine Run (cast_succ) ?_; with_reducible repeat' (first | exact True.intro | refine Lf.mk ?_ ?_ | intro hb)
theorem implOp_33 (t : List Ty) (h : t.length ≤ 2^20) : FnS Tryz.prog 129 [] [sT ⟨#[33]⟩, slT eTy t] [] (.tp [.ag [.im (.sc (.int .i64 2)), .nl, .nl], bT (!t.any fun a => !decide (a.kind = 2))]) := by
  refine FnS.go [0, 1, 4, 5, 6, 7, 8, 9, 12] [] Tryz.func129 rfl (fun kt kz => ?_)
  have fcx := fc129A84
  simp only [Tryz.f129]
  have hg : fnOk Tryz.prog 134 = true := by decide +kernel
  have n61 : ((⟨#[33]⟩ : ByteArray) = ⟨#[61]⟩) = False := eq_false (by simp)
  have n60 : ((⟨#[33]⟩ : ByteArray) = ⟨#[60]⟩) = False := eq_false (by simp)
  have n38 : ((⟨#[33]⟩ : ByteArray) = ⟨#[38]⟩) = False := eq_false (by simp)
  have n124 : ((⟨#[33]⟩ : ByteArray) = ⟨#[124]⟩) = False := eq_false (by simp)
  refine Run ((ai (ai @hg @n61) (ai @n60 (ai @n38 @n124)))) ?_; with_reducible repeat' (first | exact True.intro | refine Lf.mk ?_ ?_ | intro hb)
  refine Cal (cast_succ) (slHasTyC_ok 134 hg (.pt [.sc (.int .i64 2)]) (fun a => !decide (a.kind = 2)) t (by omega) (fun x _ => implOp1_ok 2 x)) ?_
  refine Run (cast_succ) ?_; with_reducible repeat' (first | exact True.intro | refine Lf.mk ?_ ?_ | intro hb)

theorem implOp_ok (s : ByteArray) (hs : opAr s ≠ 0) (t : List Ty) (h : t.length ≤ 2^20) : TyRes Tryz.prog 129 [sT s, slT eTy t] (opT s t) := by
  have hc : s = ⟨#[43]⟩ ∨ s = ⟨#[45]⟩ ∨ s = ⟨#[61]⟩ ∨ s = ⟨#[60]⟩ ∨ s = ⟨#[38]⟩ ∨ s = ⟨#[124]⟩ ∨ s = ⟨#[33]⟩ := by
    unfold opAr at hs
    split at hs
    · rename_i h; rcases h with h | h | h | h | h | h
      · exact .inl h
      · exact .inr (.inl h)
      · exact .inr (.inr (.inl h))
      · exact .inr (.inr (.inr (.inl h)))
      · exact .inr (.inr (.inr (.inr (.inl h))))
      · exact .inr (.inr (.inr (.inr (.inr (.inl h)))))
    · split at hs
      · rename_i h; exact .inr (.inr (.inr (.inr (.inr (.inr h)))))
      · exact absurd rfl hs
  rw [opT_eq]
  rcases hc with rfl | rfl | rfl | rfl | rfl | rfl | rfl
  · have e : (if (⟨#[43]⟩ : ByteArray) = opAnd ∨ (⟨#[43]⟩ : ByteArray) = opOr ∨ (⟨#[43]⟩ : ByteArray) = opNot then (2 : Int) else 1) = 1 := by simp [opAnd, opOr, opNot]
    have e2 : (if (⟨#[43]⟩ : ByteArray) = opPlus ∨ (⟨#[43]⟩ : ByteArray) = opMinus then tInt else tBool) = tInt := by simp [opPlus, opMinus]
    have hh : FnP Tryz.prog 129 [sT ⟨#[43]⟩, slT eTy t] (.tp [agT (eTy tInt), bT (!t.any fun a => !decide (a.kind = 1))]) := (implOp_43 t h).treeP rfl
    rw [e, e2]
    refine TyRes.mk hh ?_ fun t h => ?_
    · split <;> simp_all
    · split at h
      · exact Option.some.inj h
      · cases h
  · have e : (if (⟨#[45]⟩ : ByteArray) = opAnd ∨ (⟨#[45]⟩ : ByteArray) = opOr ∨ (⟨#[45]⟩ : ByteArray) = opNot then (2 : Int) else 1) = 1 := by simp [opAnd, opOr, opNot]
    have e2 : (if (⟨#[45]⟩ : ByteArray) = opPlus ∨ (⟨#[45]⟩ : ByteArray) = opMinus then tInt else tBool) = tInt := by simp [opPlus, opMinus]
    have hh : FnP Tryz.prog 129 [sT ⟨#[45]⟩, slT eTy t] (.tp [agT (eTy tInt), bT (!t.any fun a => !decide (a.kind = 1))]) := (implOp_45 t h).treeP rfl
    rw [e, e2]
    refine TyRes.mk hh ?_ fun t h => ?_
    · split <;> simp_all
    · split at h
      · exact Option.some.inj h
      · cases h
  · have e : (if (⟨#[61]⟩ : ByteArray) = opAnd ∨ (⟨#[61]⟩ : ByteArray) = opOr ∨ (⟨#[61]⟩ : ByteArray) = opNot then (2 : Int) else 1) = 1 := by simp [opAnd, opOr, opNot]
    have e2 : (if (⟨#[61]⟩ : ByteArray) = opPlus ∨ (⟨#[61]⟩ : ByteArray) = opMinus then tInt else tBool) = tBool := by simp [opPlus, opMinus]
    have hh : FnP Tryz.prog 129 [sT ⟨#[61]⟩, slT eTy t] (.tp [agT (eTy tBool), bT (!t.any fun a => !decide (a.kind = 1))]) := (implOp_61 t h).treeP rfl
    rw [e, e2]
    refine TyRes.mk hh ?_ fun t h => ?_
    · split <;> simp_all
    · split at h
      · exact Option.some.inj h
      · cases h
  · have e : (if (⟨#[60]⟩ : ByteArray) = opAnd ∨ (⟨#[60]⟩ : ByteArray) = opOr ∨ (⟨#[60]⟩ : ByteArray) = opNot then (2 : Int) else 1) = 1 := by simp [opAnd, opOr, opNot]
    have e2 : (if (⟨#[60]⟩ : ByteArray) = opPlus ∨ (⟨#[60]⟩ : ByteArray) = opMinus then tInt else tBool) = tBool := by simp [opPlus, opMinus]
    have hh : FnP Tryz.prog 129 [sT ⟨#[60]⟩, slT eTy t] (.tp [agT (eTy tBool), bT (!t.any fun a => !decide (a.kind = 1))]) := (implOp_60 t h).treeP rfl
    rw [e, e2]
    refine TyRes.mk hh ?_ fun t h => ?_
    · split <;> simp_all
    · split at h
      · exact Option.some.inj h
      · cases h
  · have e : (if (⟨#[38]⟩ : ByteArray) = opAnd ∨ (⟨#[38]⟩ : ByteArray) = opOr ∨ (⟨#[38]⟩ : ByteArray) = opNot then (2 : Int) else 1) = 2 := by simp [opAnd, opOr, opNot]
    have e2 : (if (⟨#[38]⟩ : ByteArray) = opPlus ∨ (⟨#[38]⟩ : ByteArray) = opMinus then tInt else tBool) = tBool := by simp [opPlus, opMinus]
    have hh : FnP Tryz.prog 129 [sT ⟨#[38]⟩, slT eTy t] (.tp [agT (eTy tBool), bT (!t.any fun a => !decide (a.kind = 2))]) := (implOp_38 t h).treeP rfl
    rw [e, e2]
    refine TyRes.mk hh ?_ fun t h => ?_
    · split <;> simp_all
    · split at h
      · exact Option.some.inj h
      · cases h
  · have e : (if (⟨#[124]⟩ : ByteArray) = opAnd ∨ (⟨#[124]⟩ : ByteArray) = opOr ∨ (⟨#[124]⟩ : ByteArray) = opNot then (2 : Int) else 1) = 2 := by simp [opAnd, opOr, opNot]
    have e2 : (if (⟨#[124]⟩ : ByteArray) = opPlus ∨ (⟨#[124]⟩ : ByteArray) = opMinus then tInt else tBool) = tBool := by simp [opPlus, opMinus]
    have hh : FnP Tryz.prog 129 [sT ⟨#[124]⟩, slT eTy t] (.tp [agT (eTy tBool), bT (!t.any fun a => !decide (a.kind = 2))]) := (implOp_124 t h).treeP rfl
    rw [e, e2]
    refine TyRes.mk hh ?_ fun t h => ?_
    · split <;> simp_all
    · split at h
      · exact Option.some.inj h
      · cases h
  · have e : (if (⟨#[33]⟩ : ByteArray) = opAnd ∨ (⟨#[33]⟩ : ByteArray) = opOr ∨ (⟨#[33]⟩ : ByteArray) = opNot then (2 : Int) else 1) = 2 := by simp [opAnd, opOr, opNot]
    have e2 : (if (⟨#[33]⟩ : ByteArray) = opPlus ∨ (⟨#[33]⟩ : ByteArray) = opMinus then tInt else tBool) = tBool := by simp [opPlus, opMinus]
    have hh : FnP Tryz.prog 129 [sT ⟨#[33]⟩, slT eTy t] (.tp [agT (eTy tBool), bT (!t.any fun a => !decide (a.kind = 2))]) := (implOp_33 t h).treeP rfl
    rw [e, e2]
    refine TyRes.mk hh ?_ fun t h => ?_
    · split <;> simp_all
    · split at h
      · exact Option.some.inj h
      · cases h
def fc50A84 := (ai (ai (ai (ai sz41 ag41) (ai zv41 sb41)) (ai (ai un41 el41) (ai ap41 sz43))) (ai (ai (ai ag43 zv43) (ai fl43_0 fl43_1)) (ai (ai fl43_2 pl43) (ai sz3 sz25))))
theorem bagType_of (t : Ty) : FnS Tryz.prog 50 [] [agT (eTy t)] [] (.ag [.im (.sc (.int .i64 4)), .nl, .im (.sl 1 (eTy t))]) := by
  refine FnS.go [0, 1, 2] [8] Tryz.func50 rfl (fun kt kz => ?_)
  have fcx := fc50A84
  simp only [Tryz.f50]
  refine Run (@eTy_eta) ?_; with_reducible repeat' (first | exact True.intro | refine Lf.mk ?_ ?_ | intro hb)

theorem bagType_ok (t : Ty) : FnP Tryz.prog 50 [agT (eTy t)] (agT (eTy (tBag t))) := by
  have e2 : slI eTy (tBag t).args = .sl 1 (eTy t) := by show IV.sl 1 ([t].flatMap eTy) = _; rw [flat_one]
  refine (bagType_of t).tree ?_
  rw [agT, eTy_eta (tBag t), e2]
  rfl
def fc115A84 := (ai (ai (ai sz43 ag43) (ai zv43 (ai fl43_0 fl43_1))) (ai (ai fl43_2 pl43) (ai sz3 (ai sz25 sz41))))
theorem intType_of (u : Unit) : FnS Tryz.prog 115 [] [] [] (.ag [.im (.sc (.int .i64 1)), .nl, .nl]) := by
  refine FnS.go [0] [] Tryz.func115 rfl (fun kt kz => ?_)
  have fcx := fc115A84
  simp only [Tryz.f115]
  refine Run (cast_succ) ?_; with_reducible repeat' (first | exact True.intro | refine Lf.mk ?_ ?_ | intro hb)
def fc116A84 := (ai (ai (ai sz43 ag43) (ai zv43 (ai fl43_0 fl43_1))) (ai (ai fl43_2 pl43) (ai sz3 (ai sz25 sz41))))
theorem boolType_of (u : Unit) : FnS Tryz.prog 116 [] [] [] (.ag [.im (.sc (.int .i64 2)), .nl, .nl]) := by
  refine FnS.go [0] [] Tryz.func116 rfl (fun kt kz => ?_)
  have fcx := fc116A84
  simp only [Tryz.f116]
  refine Run (cast_succ) ?_; with_reducible repeat' (first | exact True.intro | refine Lf.mk ?_ ?_ | intro hb)

theorem intType_t : FnP Tryz.prog 115 [] (agT (eTy tInt)) := (intType_of ()).tree rfl
theorem boolType_t : FnP Tryz.prog 116 [] (agT (eTy tBool)) := (boolType_of ()).tree rfl
end Go.VC.T
/- The conjuncts of a term; a plan's numbers of rows: no program in sight. -/
namespace Go.VC
open Go
/-- The conjuncts of a term. -/
def partsT : Tm → List Tm
  | .mk k s n ty l [a, b] => if k = 4 ∧ s = ⟨#[38]⟩ then partsT a ++ partsT b else [.mk k s n ty l [a, b]]
  | t => [t]
/-- Is it a conjunction? -/
def andT (t : Tm) : Prop := t.kind = 4 ∧ t.name = ⟨#[38]⟩ ∧ t.args.length = 2
end Go.VC
