/- A product put into an own sum: the reference. -/
import Derived.Test.YteinefllijajdaaG5L28
import Derived.Test.YteinefllijajdaaGW4
namespace Go.VC
open Go
theorem posM_hit {l : List Mono} {v : List ByteArray} {i : Nat} (h : i ≤ l.length) (hu : ∀ j, j < i → (hl : j < l.length) → cmpL l[j].vars v < 0) (hc : (hl : i < l.length) → ¬ cmpL l[i].vars v < 0) : posM l v = i := posM_eq h hu hc
end Go.VC
namespace Go.VC.T
open Go Go.VC Go.Proofs Go.VC.F
set_option linter.unusedSimpArgs false
set_option linter.unusedVariables false
set_option linter.defProp false
set_option maxRecDepth 100000
set_option maxHeartbeats 2000000
def fc26A121 := (ai (ai (ai (ai sz3 (ai ag3 zv3)) (ai (ai un3 sz4) (ai ag4 zv4))) (ai (ai un4 (ai sz26 ag26)) (ai (ai zv26 sb26) (ai un26 el26)))) (ai (ai (ai ap26 (ai sz55 ag55)) (ai (ai zv55 sb55) (ai un55 el55))) (ai (ai (ai ap55 sz57) (ai ag57 zv57)) (ai (ai fl57_0 fl57_1) (ai pl57 okf56)))))
theorem l29Add_is (l : List Mono) (hl : l.length ≤ 2^20) (hm : ∀ m ∈ l, m.vars.length ≤ 2^20) (x : Mono) (hx : x.vars.length ≤ 2^20) (hb : ∀ m ∈ l, -9223372036854775808 ≤ m.coef + x.coef ∧ m.coef + x.coef ≤ 9223372036854775807) (hh : ∃ h : posM l x.vars < l.length, cmpL l[posM l x.vars].vars x.vars = 0) : FnS Try.prog 26 [(1, .vec 57 2 l.length (l.flatMap eMono) false)] [.c (.os 1 l.length), agT (eMono x)] [(1, .vec 57 2 l.length ((addM l x).flatMap eMono) false)] (.c (.os 1 l.length)) := by
  refine FnS.go [0, 1, 3, 4, 5, 6, 21, 38] [] Try.func26 rfl (fun kt kz => ?_) (hodd := by refine oddS _ ?_; simp)
  have fcx := fc26A121
  simp only [Try.f26]
  refine Run (@eMono_eta) ?_; with_reducible repeat' (first | exact True.intro | refine Lf.mk ?_ ?_ | intro hb)
  refine Trn (α := Nat) [5, 7, 8, 9, 10, 11, 12, 13, 14, 15, 16, 17, 18, 19, 20, 21, 22, 23] (fun i => [(5, iT i)]) (fun i => [(1, .vec 57 2 l.length (l.flatMap eMono) false), (6, .box 57 ((eMono x).map .im))]) (fun i => i ≤ l.length ∧ ∀ j, j < i → (hl : j < l.length) → cmpL l[j].vars x.vars < 0) (fun i => l.length - i) (0) (⟨Nat.zero_le _, fun j h => absurd h (Nat.not_lt_zero _)⟩) (@eMono_eta) ?_; intro lx hI; obtain i := lx; (try simp only [List.nil_append, List.cons_append] at hI ⊢)
  by_cases hlt : lx < l.length
  · have hv := hm _ (List.getElem_mem hlt)
    have hcl : (List.map Cell.im (l.flatMap eMono))[lx * 2 + 1]? = some (.im (.sl l[lx].vars.length (l[lx].vars.flatMap eS))) := by rw [List.getElem?_map, flat_get hlt (c := 1) (by omega)]; rfl
    have hcl0 : (List.map Cell.im (l.flatMap eMono))[lx * 2]? = some (.im (.sc (.int .i64 l[lx].coef))) := by rw [List.getElem?_map, flat_get0 hlt (by omega)]; rfl
    refine Run ((ai @eMono_eta (ai @hlt @hcl))) ?_; with_reducible repeat' (first | exact True.intro | refine Lf.mk ?_ ?_ | intro hb)
    refine Cal (@eMono_eta) (l5Labels_ok l[lx].vars x.vars (by omega) (by omega)) ?_
    by_cases hc1 : cmpL l[lx].vars x.vars < 0
    · refine Run ((ai (ai @eMono_eta @hlt) (ai @hcl @hc1))) ?_; with_reducible repeat' (first | exact True.intro | refine Lf.mk ?_ ?_ | intro hb)
      exact Nxt (@eMono_eta) (lx + 1) (⟨hlt, fun j hj hjl => by
        by_cases e : j = lx
        · subst e; exact hc1
        · exact hI.2 j (by omega) hjl⟩) (by first | omega | (simp; omega))
    · have hp := posM_hit hI.1 hI.2 (fun _ => hc1)
      have hc2 : cmpL l[lx].vars x.vars = 0 := by obtain ⟨h1, h2⟩ := hh; simp only [hp] at h2; exact h2
      refine Run ((ai (ai @eMono_eta @hlt) (ai @hcl @hc1))) ?_; with_reducible repeat' (first | exact True.intro | refine Lf.mk ?_ ?_ | intro hb)
      refine Cal (@eMono_eta) (l5Labels_ok l[lx].vars x.vars (by omega) (by omega)) ?_
      have hbb := hb _ (List.getElem_mem hlt)
      have hA : addM l x = l.set lx ⟨l[lx].coef + x.coef, l[lx].vars⟩ := by
        have h1 : posM l x.vars < l.length := by omega
        have h2 := addM_is h1 (by simp only [hp]; exact hc2)
        simp only [hp] at h2
        exact h2
      rw [hA]
      refine RunX ((ai (ai @eMono_eta @hlt) (ai @hcl (ai @hcl0 @hc2)))) ?_; with_reducible repeat' (first | exact True.intro | refine Lf.mk ?_ ?_ | intro hb)
      rw [flat_setM hlt]
  · have hp := posM_hit hI.1 hI.2 (fun h => absurd h hlt)
    obtain ⟨h1, _⟩ := hh
    omega
theorem l29Add_no (l : List Mono) (hl : l.length ≤ 2^20) (hm : ∀ m ∈ l, m.vars.length ≤ 2^20) (x : Mono) (hx : x.vars.length ≤ 2^20) (hh : ∀ h : posM l x.vars < l.length, ¬ cmpL l[posM l x.vars].vars x.vars = 0) : FnS Try.prog 26 [(1, .vec 57 2 l.length (l.flatMap eMono) false)] [.c (.os 1 l.length), agT (eMono x)] [(136, .vec 57 2 (l.length + 1) ((addM l x).flatMap eMono) false)] (.c (.os 136 (l.length + 1))) := by
  refine FnS.go [0, 1, 3, 4, 5, 6, 21, 38] [] Try.func26 rfl (fun kt kz => ?_) (hodd := by refine oddS _ ?_; simp)
  have fcx := fc26A121
  simp only [Try.f26]
  refine Run (@eMono_eta) ?_; with_reducible repeat' (first | exact True.intro | refine Lf.mk ?_ ?_ | intro hb)
  refine Trn (α := Nat) [5, 7, 8, 9, 10, 11, 12, 13, 14, 15, 16, 17, 18, 19, 20, 21, 22, 23] (fun i => [(5, iT i)]) (fun i => [(1, .vec 57 2 l.length (l.flatMap eMono) false), (6, .box 57 ((eMono x).map .im))]) (fun i => i ≤ l.length ∧ ∀ j, j < i → (hl : j < l.length) → cmpL l[j].vars x.vars < 0) (fun i => l.length - i) (0) (⟨Nat.zero_le _, fun j h => absurd h (Nat.not_lt_zero _)⟩) (@eMono_eta) ?_; intro lx hI; obtain i := lx; (try simp only [List.nil_append, List.cons_append] at hI ⊢)
  have hA : posM l x.vars = lx → addM l x = l.take lx ++ [x] ++ l.drop lx := fun hp => by
    have h2 := addM_no hh
    rw [hp] at h2
    exact h2
  have dq : Dq [0, 1, 2, 3, 4, 6, 7, 12] [5, 8, 9, 10, 11, 13, 14] 40 [[0, 1, 2, 3, 4, 6, 7, 12], [0, 1, 2, 3, 4, 12], [0, 1, 2, 12], [0, 1, 2, 12], [12], [], []] := ⟨⟩
  by_cases hlt : lx < l.length
  · have hv := hm _ (List.getElem_mem hlt)
    have hcl : (List.map Cell.im (l.flatMap eMono))[lx * 2 + 1]? = some (.im (.sl l[lx].vars.length (l[lx].vars.flatMap eS))) := by rw [List.getElem?_map, flat_get hlt (c := 1) (by omega)]; rfl
    have hcl0 : (List.map Cell.im (l.flatMap eMono))[lx * 2]? = some (.im (.sc (.int .i64 l[lx].coef))) := by rw [List.getElem?_map, flat_get0 hlt (by omega)]; rfl
    refine Run ((ai @eMono_eta (ai @hlt @hcl))) ?_; with_reducible repeat' (first | exact True.intro | refine Lf.mk ?_ ?_ | intro hb)
    refine Cal (@eMono_eta) (l5Labels_ok l[lx].vars x.vars (by omega) (by omega)) ?_
    by_cases hc1 : cmpL l[lx].vars x.vars < 0
    · refine Run ((ai (ai @eMono_eta @hlt) (ai @hcl @hc1))) ?_; with_reducible repeat' (first | exact True.intro | refine Lf.mk ?_ ?_ | intro hb)
      exact Nxt (@eMono_eta) (lx + 1) (⟨hlt, fun j hj hjl => by
        by_cases e : j = lx
        · subst e; exact hc1
        · exact hI.2 j (by omega) hjl⟩) (by first | omega | (simp; omega))
    · have hp := posM_hit hI.1 hI.2 (fun _ => hc1)
      have hc2 : ¬ cmpL l[lx].vars x.vars = 0 := by have h1 := hh (by omega); simp only [hp] at h1; exact h1
      refine Run ((ai (ai @eMono_eta @hlt) (ai @hcl @hc1))) ?_; with_reducible repeat' (first | exact True.intro | refine Lf.mk ?_ ?_ | intro hb)
      refine Cal (@eMono_eta) (l5Labels_ok l[lx].vars x.vars (by omega) (by omega)) ?_
      rw [hA hp]
      have hli : (lx : Int) ≤ (l.length : Int) := by omega
      have hll : ((l.flatMap eMono).drop (lx * 2)).take ((l.length - lx) * 2) = (l.drop lx).flatMap eMono := by
        rw [flat_dropM, List.take_of_length_le]
        rw [flat_len' (z := 2), List.length_drop]; exact Nat.le_refl _
      have hn1 : lx + 1 + (l.length - lx) = l.length + 1 := by omega
      refine Run ((ai (ai @eMono_eta (ai @hlt @hcl)) (ai (ai @hc2 @hli) (ai @Int.le_refl @hll)))) ?_; with_reducible repeat' (first | exact True.intro | refine Lf.mk ?_ ?_ | intro hb)
      refine ⟨by rw [flat_len' (z := 2), List.length_drop], by simp only [maxLen]; omega, by omega, ?_⟩
      refine RunX ((ai (ai (ai @eMono_eta @hlt) (ai @hcl @hc2)) (ai (ai @hli @Int.le_refl) (ai @hll (ai @Nat.sub_zero @hn1))))) ?_; with_reducible repeat' (first | exact True.intro | refine Lf.mk ?_ ?_ | intro hb)
      refine ⟨by rw [List.length_drop], by simp only [maxLen]; omega, by omega, ?_⟩
      refine RunX ((ai (ai @eMono_eta @hlt) (ai @hcl (ai @hc2 @Nat.sub_zero)))) ?_; with_reducible repeat' (first | exact True.intro | refine Lf.mk ?_ ?_ | intro hb)
      rw [flat_takeM, List.flatMap_append, List.flatMap_append, flat_one]
      rfl
  · obtain rfl : lx = l.length := by omega
    have hp := posM_hit hI.1 hI.2 (fun h => absurd h (by omega))
    have hE : l.take l.length ++ [x] ++ l.drop l.length = l ++ [x] := by simp
    rw [hA hp, hE]
    have hlf : ¬ ((l.length : Int) < (l.length : Int)) := by omega
    have hd0 : ((l.flatMap eMono).drop (l.length * 2)) = [] := by rw [flat_dropM, List.drop_length]; rfl
    have ht0 : ((l.flatMap eMono).take (l.length * 2)) = l.flatMap eMono := by rw [flat_takeM, List.take_length]
    have hs0 : l.length - l.length = 0 := Nat.sub_self _
    have hfe : (l ++ [x]).flatMap eMono = l.flatMap eMono ++ eMono x := by rw [List.flatMap_append, flat_one]
    refine RunX ((ai (ai (ai @eMono_eta @hlt) (ai @hlf @hd0)) (ai (ai @hs0 @Int.le_refl) (ai @Nat.sub_zero (ai @ht0 @hfe))))) ?_; with_reducible repeat' (first | exact True.intro | refine Lf.mk ?_ ?_ | intro hb)
theorem l29Add_ok (l : List Mono) (hl : l.length ≤ 2^20) (hm : ∀ m ∈ l, m.vars.length ≤ 2^20) (x : Mono) (hx : x.vars.length ≤ 2^20) (hb : ∀ m ∈ l, -9223372036854775808 ≤ m.coef + x.coef ∧ m.coef + x.coef ≤ 9223372036854775807) :
    FnS Try.prog 26 [(1, .vec 57 2 l.length (l.flatMap eMono) false)] [.c (.os 1 l.length), agT (eMono x)] [(1, .vec 57 2 (addM l x).length ((addM l x).flatMap eMono) false)] (.c (.os 1 (addM l x).length)) := by
  by_cases hc : ∃ h : posM l x.vars < l.length, cmpL l[posM l x.vars].vars x.vars = 0
  · have e : (addM l x).length = l.length := by obtain ⟨hp, hc⟩ := hc; rw [addM_is hp hc, List.length_set]
    rw [e]
    exact l29Add_is l hl hm x hx hb hc
  · have hc' : ∀ h : posM l x.vars < l.length, ¬ cmpL l[posM l x.vars].vars x.vars = 0 := fun h1 h2 => hc ⟨h1, h2⟩
    have e : (addM l x).length = l.length + 1 := by
      have := posM_le (l := l) (v := x.vars)
      rw [addM_no hc']; simp; omega
    rw [e]
    exact (l29Add_no l hl hm x hx hc').back (Nat.lt_succ_self _)

end Go.VC.T
/- Sums of polynomials: the reference. -/
namespace Go.VC
open Go
theorem sumM_a {a b : List Mono} {i : Nat} (h : i < a.length) : sumM a b (i + 1) = addM (sumM a b i) a[i] := by
  rw [sumM_succ (by simp; omega), List.getElem_append_left h]
theorem sumM_b {a b : List Mono} {i : Nat} (h : i < b.length) : sumM a b (a.length + (i + 1)) = addM (sumM a b (a.length + i)) b[i] := by
  rw [← Nat.add_assoc, sumM_succ (by simp; omega), List.getElem_append_right (by omega)]
  congr 2; omega
theorem sumM_end (a b : List Mono) : sumM a b (a.length + b.length) = addAll [] (a ++ b) := by rw [← List.length_append]; exact sumM_all a b
end Go.VC
namespace Go.VC.T
open Go Go.VC Go.Proofs Go.VC.F
set_option linter.unusedSimpArgs false
set_option linter.unusedVariables false
set_option linter.defProp false
set_option maxRecDepth 100000
set_option maxHeartbeats 2000000
def fc27A122 := (ai (ai (ai (ai sz4 ag4) (ai zv4 un4)) (ai (ai sz26 ag26) (ai zv26 sb26))) (ai (ai (ai un26 el26) (ai ap26 sz28)) (ai (ai ag28 zv28) (ai fl28_0 (ai pl28 okf25)))))
theorem l29Done_y (l : List Mono) (h : okPoly (2^20) l) (hP : PolyOk l) : FnS Try.prog 27 [(1, .vec 57 2 l.length (l.flatMap eMono) false)] [.c (.os 1 l.length)] [(1, .vec 57 2 l.length (l.flatMap eMono) false)] (.tp [.ag [.os 1 l.length], bT true]) := by
  refine FnS.go [0, 2, 3, 4, 9] [] Try.func27 rfl (fun kt kz => ?_) (hodd := by refine oddS _ ?_; simp)
  have fcx := fc27A122
  simp only [Try.f27]
  have gP := eq_true hP
  refine Run (@ePoly_eta) ?_; with_reducible repeat' (first | exact True.intro | refine Lf.mk ?_ ?_ | intro hb)
  refine Cal (@ePoly_eta) (specIsPoly_ok l h) ?_
  refine Run ((ai @ePoly_eta @gP)) ?_; with_reducible repeat' (first | exact True.intro | refine Lf.mk ?_ ?_ | intro hb)
theorem l29Done_n (l : List Mono) (h : okPoly (2^20) l) (hP : ¬ PolyOk l) : FnS Try.prog 27 [(1, .vec 57 2 l.length (l.flatMap eMono) false)] [.c (.os 1 l.length)] [] (.tp [.ag [.nl], bT false]) := by
  refine FnS.go [0, 2, 3, 4, 9] [] Try.func27 rfl (fun kt kz => ?_) (hodd := by refine oddS _ ?_; simp)
  have fcx := fc27A122
  simp only [Try.f27]
  have gP := eq_false hP
  refine Run (@ePoly_eta) ?_; with_reducible repeat' (first | exact True.intro | refine Lf.mk ?_ ?_ | intro hb)
  refine Cal (@ePoly_eta) (specIsPoly_ok l h) ?_
  refine Run ((ai @ePoly_eta @gP)) ?_; with_reducible repeat' (first | exact True.intro | refine Lf.mk ?_ ?_ | intro hb)
def fc7A122 := (ai (ai (ai (ai sz3 (ai ag3 zv3)) (ai (ai un3 sz4) (ai ag4 zv4))) (ai (ai (ai un4 sz26) (ai ag26 zv26)) (ai (ai sb26 un26) (ai el26 ap26)))) (ai (ai (ai sz28 (ai ag28 zv28)) (ai (ai fl28_0 pl28) (ai sz57 ag57))) (ai (ai (ai zv57 fl57_0) (ai fl57_1 pl57)) (ai (ai okf25 okf26) (ai okf27 sz55)))))
theorem specAdd_y (a b : List Mono) (ha : okPoly (2^20) a) (hb' : okPoly (2^20) b) (hA : PolyOk a) (hB : PolyOk b) (ho : okPoly (2^20) (addAll [] (a ++ b))) (hP : PolyOk (addAll [] (a ++ b))) : FnS Try.prog 7 [] [agT (ePoly a), agT (ePoly b)] [(40, .vec 57 2 (addAll [] (a ++ b)).length ((addAll [] (a ++ b)).flatMap eMono) false)] (.tp [.ag [.os 40 (addAll [] (a ++ b)).length], bT true]) := by
  refine FnS.go [0, 1, 2, 3, 4, 5, 6, 7, 8, 9, 10, 18, 25, 39] [] Try.func7 rfl (fun kt kz => ?_)
  have fcx := fc7A122
  simp only [Try.f7]
  have gA := eq_true hA
  have gB := eq_true hB
  have hla := hA.2
  have hlb := hB.2
  have s0 : (sumM a b 0).length = 0 := rfl
  have f0 : (sumM a b 0).flatMap eMono = [] := rfl
  have send := sumM_end a b
  have HD : FnS Try.prog 27 [(40, .vec 57 2 (addAll [] (a ++ b)).length ((addAll [] (a ++ b)).flatMap eMono) false)] [.c (.os 40 (addAll [] (a ++ b)).length)] [(40, .vec 57 2 (addAll [] (a ++ b)).length ((addAll [] (a ++ b)).flatMap eMono) false)] (.tp [.ag [.os 40 (addAll [] (a ++ b)).length], bT true]) := by
    obtain ⟨f, hf⟩ := pml [1] [40] (by decide) (by decide) rfl
    simp only [List.map_cons, List.map_nil, List.cons.injEq, and_true] at hf
    refine ((l29Done_y _ ho hP).renA f).asA ?_ ?_ ?_ ?_ <;> simp [renS, Ob.ren, TV.ren, renL, Cell.ren, hf]
  have HS : ∀ (i : Nat) (x : Mono), MonoOk x → sumM a b (i + 1) = addM (sumM a b i) x → FnS Try.prog 26 [(40, .vec 57 2 (sumM a b i).length ((sumM a b i).flatMap eMono) false)] [.c (.os 40 (sumM a b i).length), agT (eMono x)] [(40, .vec 57 2 (sumM a b (i + 1)).length ((sumM a b (i + 1)).flatMap eMono) false)] (.c (.os 40 (sumM a b (i + 1)).length)) := fun i x hx hs => by
    have hbn := sumM_bnd hA hB i
    have hml := sumM_len a b i
    have hx1 := hx.1
    have hx2 := hx.2.1
    obtain ⟨f, hf⟩ := pml [1] [40] (by decide) (by decide) rfl
    simp only [List.map_cons, List.map_nil, List.cons.injEq, and_true] at hf
    have := l29Add_ok (sumM a b i) (by omega) (fun m hm => by have := (hbn m hm).2; omega) x (by omega) (fun m hm => by have := (hbn m hm).1; omega)
    rw [← hs] at this
    refine (this.renA f).asA ?_ ?_ ?_ ?_ <;> simp [renS, Ob.ren, TV.ren, renL, Cell.ren, hf, agT, eMono_eta, slI]
  refine Run (@ePoly_eta) ?_; with_reducible repeat' (first | exact True.intro | refine Lf.mk ?_ ?_ | intro hb)
  refine Cal (@ePoly_eta) (specIsPoly_ok a ha) ?_
  refine Run ((ai @ePoly_eta @gA)) ?_; with_reducible repeat' (first | exact True.intro | refine Lf.mk ?_ ?_ | intro hb)
  refine Cal (@ePoly_eta) (specIsPoly_ok b hb') ?_
  refine Run ((ai @ePoly_eta @gB)) ?_; with_reducible repeat' (first | exact True.intro | refine Lf.mk ?_ ?_ | intro hb)
  refine Sm.share (40) (by simp -dsimp (maxSteps := 2000000) (disch := omega) only [vs, ↓Option.bind_some, ev1, ofV, scalarB, Kn, Kb, calleeOf, evLoad, ptr, evField, evFieldAddr, shift, ↓pt_at, ↓pt_at1, evExtract, evBin, evLen, evConv, cellsT, noS, Cell.has, Cell.hasN, Cell.anyN, toIV, toIV0, toIVs, ownC, srcM, Ob.own, Ob.esz, allSc, nilK, lenC, ownCell, isPtr, ptrNil, frzO, Cell.frz, Cell.keys, ↓reduceIte, reduceCtorEq, Nat.reduceEqDiff, Nat.reduceBEq, Nat.reduceBNe, Nat.reduceAdd, Nat.reduceMul, Nat.reduceSub, Nat.reduceLT, Nat.reduceLeDiff, Nat.reducePow, Int.reduceLT, Int.reduceLE, Int.reduceEq, Int.reduceNe, quietB, Nat.reduceMod, Int.reduceToNat, ne_eq, eq_self, exists_const, evBytes, byRow, byL, byStr_size, ifsz, ByteArray.size_append, Option.none_or, Option.some_or, evLook, keyD, fc7A122]) ?_; simp -dsimp (maxSteps := 2000000) (disch := omega) only [vs, ↓Option.bind_some, ev1, ofV, scalarB, Kn, Kb, calleeOf, evLoad, ptr, evField, evFieldAddr, shift, ↓pt_at, ↓pt_at1, evExtract, evBin, evLen, evConv, cellsT, noS, Cell.has, Cell.hasN, Cell.anyN, toIV, toIV0, toIVs, ownC, srcM, Ob.own, Ob.esz, allSc, nilK, lenC, ownCell, isPtr, ptrNil, frzO, Cell.frz, Cell.keys, ↓reduceIte, reduceCtorEq, Nat.reduceEqDiff, Nat.reduceBEq, Nat.reduceBNe, Nat.reduceAdd, Nat.reduceMul, Nat.reduceSub, Nat.reduceLT, Nat.reduceLeDiff, Nat.reducePow, Int.reduceLT, Int.reduceLE, Int.reduceEq, Int.reduceNe, quietB, Nat.reduceMod, Int.reduceToNat, ne_eq, eq_self, exists_const, evBytes, byRow, byL, byStr_size, ifsz, ByteArray.size_append, Option.none_or, Option.some_or, evLook, keyD, fc7A122, St.share]
  refine Trn (α := Nat) [6, 7, 21, 22, 23, 24, 25, 26, 27, 28, 29, 30, 31, 32, 33, 34] (fun i => [(7, iT i), (6, .c (.os 40 (sumM a b i).length))]) (fun i => [(4, .box 28 ((ePoly a).map .im)), (6, .box 28 ((ePoly b).map .im)), (8, .box 28 [.nl]), (40, .vec 57 2 (sumM a b i).length ((sumM a b i).flatMap eMono) false)]) (fun i => i ≤ a.length) (fun i => a.length - i) (0) (Nat.zero_le _) ((ai @ePoly_eta (ai @s0 @f0))) ?_; intro lx hI; obtain i := lx; (try simp only [List.nil_append, List.cons_append] at hI ⊢)
  by_cases hlt : lx < a.length
  · refine Run ((ai @ePoly_eta (ai @eMono_eta @hlt))) ?_; with_reducible repeat' (first | exact True.intro | refine Lf.mk ?_ ?_ | intro hb)
    refine CalO ((ai @ePoly_eta @eMono_eta)) (HS lx a[lx] (polyOk_mem hA (List.getElem_mem hlt)) (sumM_a hlt)) ?_
    refine Run ((ai @ePoly_eta (ai @eMono_eta @hlt))) ?_; with_reducible repeat' (first | exact True.intro | refine Lf.mk ?_ ?_ | intro hb)
    exact Nxt (@ePoly_eta) (lx + 1) (hlt) (by first | omega | (simp; omega))
  · obtain rfl : lx = a.length := by omega
    refine Run ((ai @ePoly_eta @hlt)) ?_; with_reducible repeat' (first | exact True.intro | refine Lf.mk ?_ ?_ | intro hb)
    refine Trn (α := Nat) [6, 8, 35, 36, 37, 38, 39, 40, 41, 42, 43, 44, 45, 46, 47, 48] (fun i => [(8, iT i), (6, .c (.os 40 (sumM a b (a.length + i)).length))]) (fun i => [(4, .box 28 ((ePoly a).map .im)), (6, .box 28 ((ePoly b).map .im)), (8, .box 28 [.nl]), (40, .vec 57 2 (sumM a b (a.length + i)).length ((sumM a b (a.length + i)).flatMap eMono) false)]) (fun i => i ≤ b.length) (fun i => b.length - i) (0) (Nat.zero_le _) ((ai @ePoly_eta @Nat.add_zero)) ?_; intro ly hJ; obtain i := ly; (try simp only [List.nil_append, List.cons_append] at hJ ⊢)
    by_cases hlt2 : ly < b.length
    · refine Run ((ai @ePoly_eta (ai @eMono_eta @hlt2))) ?_; with_reducible repeat' (first | exact True.intro | refine Lf.mk ?_ ?_ | intro hb)
      refine CalO ((ai @ePoly_eta @eMono_eta)) (HS (a.length + ly) b[ly] (polyOk_mem hB (List.getElem_mem hlt2)) (sumM_b hlt2)) ?_
      refine Run ((ai @ePoly_eta (ai @eMono_eta @hlt2))) ?_; with_reducible repeat' (first | exact True.intro | refine Lf.mk ?_ ?_ | intro hb)
      exact Nxt ((ai @ePoly_eta @Nat.add_assoc)) (ly + 1) (hlt2) (by first | omega | (simp; omega))
    · obtain rfl : ly = b.length := by omega
      refine Run ((ai @ePoly_eta (ai @hlt2 @send))) ?_; with_reducible repeat' (first | exact True.intro | refine Lf.mk ?_ ?_ | intro hb)
      refine CalO (@ePoly_eta) (HD) ?_
      refine Run (@ePoly_eta) ?_; with_reducible repeat' (first | exact True.intro | refine Lf.mk ?_ ?_ | intro hb)
      refine ⟨rfl, rfl, ?_⟩
      refine Run (@ePoly_eta) ?_; with_reducible repeat' (first | exact True.intro | refine Lf.mk ?_ ?_ | intro hb)
theorem specAdd_n (a b : List Mono) (ha : okPoly (2^20) a) (hb' : okPoly (2^20) b) (hA : PolyOk a) (hB : PolyOk b) (ho : okPoly (2^20) (addAll [] (a ++ b))) (hP : ¬ PolyOk (addAll [] (a ++ b))) : FnS Try.prog 7 [] [agT (ePoly a), agT (ePoly b)] [] (.tp [.ag [.nl], bT false]) := by
  refine FnS.go [0, 1, 2, 3, 4, 5, 6, 7, 8, 9, 10, 18, 25, 39] [] Try.func7 rfl (fun kt kz => ?_)
  have fcx := fc7A122
  simp only [Try.f7]
  have gA := eq_true hA
  have gB := eq_true hB
  have hla := hA.2
  have hlb := hB.2
  have s0 : (sumM a b 0).length = 0 := rfl
  have f0 : (sumM a b 0).flatMap eMono = [] := rfl
  have send := sumM_end a b
  have HD : FnS Try.prog 27 [(40, .vec 57 2 (addAll [] (a ++ b)).length ((addAll [] (a ++ b)).flatMap eMono) false)] [.c (.os 40 (addAll [] (a ++ b)).length)] [] (.tp [.ag [.nl], bT false]) := by
    obtain ⟨f, hf⟩ := pml [1] [40] (by decide) (by decide) rfl
    simp only [List.map_cons, List.map_nil, List.cons.injEq, and_true] at hf
    refine ((l29Done_n _ ho hP).renA f).asA ?_ ?_ ?_ ?_ <;> simp [renS, Ob.ren, TV.ren, renL, Cell.ren, hf]
  have HS : ∀ (i : Nat) (x : Mono), MonoOk x → sumM a b (i + 1) = addM (sumM a b i) x → FnS Try.prog 26 [(40, .vec 57 2 (sumM a b i).length ((sumM a b i).flatMap eMono) false)] [.c (.os 40 (sumM a b i).length), agT (eMono x)] [(40, .vec 57 2 (sumM a b (i + 1)).length ((sumM a b (i + 1)).flatMap eMono) false)] (.c (.os 40 (sumM a b (i + 1)).length)) := fun i x hx hs => by
    have hbn := sumM_bnd hA hB i
    have hml := sumM_len a b i
    have hx1 := hx.1
    have hx2 := hx.2.1
    obtain ⟨f, hf⟩ := pml [1] [40] (by decide) (by decide) rfl
    simp only [List.map_cons, List.map_nil, List.cons.injEq, and_true] at hf
    have := l29Add_ok (sumM a b i) (by omega) (fun m hm => by have := (hbn m hm).2; omega) x (by omega) (fun m hm => by have := (hbn m hm).1; omega)
    rw [← hs] at this
    refine (this.renA f).asA ?_ ?_ ?_ ?_ <;> simp [renS, Ob.ren, TV.ren, renL, Cell.ren, hf, agT, eMono_eta, slI]
  refine Run (@ePoly_eta) ?_; with_reducible repeat' (first | exact True.intro | refine Lf.mk ?_ ?_ | intro hb)
  refine Cal (@ePoly_eta) (specIsPoly_ok a ha) ?_
  refine Run ((ai @ePoly_eta @gA)) ?_; with_reducible repeat' (first | exact True.intro | refine Lf.mk ?_ ?_ | intro hb)
  refine Cal (@ePoly_eta) (specIsPoly_ok b hb') ?_
  refine Run ((ai @ePoly_eta @gB)) ?_; with_reducible repeat' (first | exact True.intro | refine Lf.mk ?_ ?_ | intro hb)
  refine Sm.share (40) (by simp -dsimp (maxSteps := 2000000) (disch := omega) only [vs, ↓Option.bind_some, ev1, ofV, scalarB, Kn, Kb, calleeOf, evLoad, ptr, evField, evFieldAddr, shift, ↓pt_at, ↓pt_at1, evExtract, evBin, evLen, evConv, cellsT, noS, Cell.has, Cell.hasN, Cell.anyN, toIV, toIV0, toIVs, ownC, srcM, Ob.own, Ob.esz, allSc, nilK, lenC, ownCell, isPtr, ptrNil, frzO, Cell.frz, Cell.keys, ↓reduceIte, reduceCtorEq, Nat.reduceEqDiff, Nat.reduceBEq, Nat.reduceBNe, Nat.reduceAdd, Nat.reduceMul, Nat.reduceSub, Nat.reduceLT, Nat.reduceLeDiff, Nat.reducePow, Int.reduceLT, Int.reduceLE, Int.reduceEq, Int.reduceNe, quietB, Nat.reduceMod, Int.reduceToNat, ne_eq, eq_self, exists_const, evBytes, byRow, byL, byStr_size, ifsz, ByteArray.size_append, Option.none_or, Option.some_or, evLook, keyD, fc7A122]) ?_; simp -dsimp (maxSteps := 2000000) (disch := omega) only [vs, ↓Option.bind_some, ev1, ofV, scalarB, Kn, Kb, calleeOf, evLoad, ptr, evField, evFieldAddr, shift, ↓pt_at, ↓pt_at1, evExtract, evBin, evLen, evConv, cellsT, noS, Cell.has, Cell.hasN, Cell.anyN, toIV, toIV0, toIVs, ownC, srcM, Ob.own, Ob.esz, allSc, nilK, lenC, ownCell, isPtr, ptrNil, frzO, Cell.frz, Cell.keys, ↓reduceIte, reduceCtorEq, Nat.reduceEqDiff, Nat.reduceBEq, Nat.reduceBNe, Nat.reduceAdd, Nat.reduceMul, Nat.reduceSub, Nat.reduceLT, Nat.reduceLeDiff, Nat.reducePow, Int.reduceLT, Int.reduceLE, Int.reduceEq, Int.reduceNe, quietB, Nat.reduceMod, Int.reduceToNat, ne_eq, eq_self, exists_const, evBytes, byRow, byL, byStr_size, ifsz, ByteArray.size_append, Option.none_or, Option.some_or, evLook, keyD, fc7A122, St.share]
  refine Trn (α := Nat) [6, 7, 21, 22, 23, 24, 25, 26, 27, 28, 29, 30, 31, 32, 33, 34] (fun i => [(7, iT i), (6, .c (.os 40 (sumM a b i).length))]) (fun i => [(4, .box 28 ((ePoly a).map .im)), (6, .box 28 ((ePoly b).map .im)), (8, .box 28 [.nl]), (40, .vec 57 2 (sumM a b i).length ((sumM a b i).flatMap eMono) false)]) (fun i => i ≤ a.length) (fun i => a.length - i) (0) (Nat.zero_le _) ((ai @ePoly_eta (ai @s0 @f0))) ?_; intro lx hI; obtain i := lx; (try simp only [List.nil_append, List.cons_append] at hI ⊢)
  by_cases hlt : lx < a.length
  · refine Run ((ai @ePoly_eta (ai @eMono_eta @hlt))) ?_; with_reducible repeat' (first | exact True.intro | refine Lf.mk ?_ ?_ | intro hb)
    refine CalO ((ai @ePoly_eta @eMono_eta)) (HS lx a[lx] (polyOk_mem hA (List.getElem_mem hlt)) (sumM_a hlt)) ?_
    refine Run ((ai @ePoly_eta (ai @eMono_eta @hlt))) ?_; with_reducible repeat' (first | exact True.intro | refine Lf.mk ?_ ?_ | intro hb)
    exact Nxt (@ePoly_eta) (lx + 1) (hlt) (by first | omega | (simp; omega))
  · obtain rfl : lx = a.length := by omega
    refine Run ((ai @ePoly_eta @hlt)) ?_; with_reducible repeat' (first | exact True.intro | refine Lf.mk ?_ ?_ | intro hb)
    refine Trn (α := Nat) [6, 8, 35, 36, 37, 38, 39, 40, 41, 42, 43, 44, 45, 46, 47, 48] (fun i => [(8, iT i), (6, .c (.os 40 (sumM a b (a.length + i)).length))]) (fun i => [(4, .box 28 ((ePoly a).map .im)), (6, .box 28 ((ePoly b).map .im)), (8, .box 28 [.nl]), (40, .vec 57 2 (sumM a b (a.length + i)).length ((sumM a b (a.length + i)).flatMap eMono) false)]) (fun i => i ≤ b.length) (fun i => b.length - i) (0) (Nat.zero_le _) ((ai @ePoly_eta @Nat.add_zero)) ?_; intro ly hJ; obtain i := ly; (try simp only [List.nil_append, List.cons_append] at hJ ⊢)
    by_cases hlt2 : ly < b.length
    · refine Run ((ai @ePoly_eta (ai @eMono_eta @hlt2))) ?_; with_reducible repeat' (first | exact True.intro | refine Lf.mk ?_ ?_ | intro hb)
      refine CalO ((ai @ePoly_eta @eMono_eta)) (HS (a.length + ly) b[ly] (polyOk_mem hB (List.getElem_mem hlt2)) (sumM_b hlt2)) ?_
      refine Run ((ai @ePoly_eta (ai @eMono_eta @hlt2))) ?_; with_reducible repeat' (first | exact True.intro | refine Lf.mk ?_ ?_ | intro hb)
      exact Nxt ((ai @ePoly_eta @Nat.add_assoc)) (ly + 1) (hlt2) (by first | omega | (simp; omega))
    · obtain rfl : ly = b.length := by omega
      refine Run ((ai @ePoly_eta (ai @hlt2 @send))) ?_; with_reducible repeat' (first | exact True.intro | refine Lf.mk ?_ ?_ | intro hb)
      refine CalO (@ePoly_eta) (HD) ?_
      refine Run (@ePoly_eta) ?_; with_reducible repeat' (first | exact True.intro | refine Lf.mk ?_ ?_ | intro hb)
      refine ⟨rfl, rfl, ?_⟩
      refine Run (@ePoly_eta) ?_; with_reducible repeat' (first | exact True.intro | refine Lf.mk ?_ ?_ | intro hb)
theorem specAdd_a (a b : List Mono) (ha : okPoly (2^20) a) (hA : ¬ PolyOk a) : FnS Try.prog 7 [] [agT (ePoly a), agT (ePoly b)] [] (.tp [.ag [.nl], bT false]) := by
  refine FnS.go [0, 1, 2, 3, 4, 5, 6, 7, 8, 9, 10, 18, 25, 39] [] Try.func7 rfl (fun kt kz => ?_)
  have fcx := fc7A122
  simp only [Try.f7]
  have gA := eq_false hA
  refine Run (@ePoly_eta) ?_; with_reducible repeat' (first | exact True.intro | refine Lf.mk ?_ ?_ | intro hb)
  refine Cal (@ePoly_eta) (specIsPoly_ok a ha) ?_
  refine Run ((ai @ePoly_eta @gA)) ?_; with_reducible repeat' (first | exact True.intro | refine Lf.mk ?_ ?_ | intro hb)
theorem specAdd_b (a b : List Mono) (ha : okPoly (2^20) a) (hb' : okPoly (2^20) b) (hA : PolyOk a) (hB : ¬ PolyOk b) : FnS Try.prog 7 [] [agT (ePoly a), agT (ePoly b)] [] (.tp [.ag [.nl], bT false]) := by
  refine FnS.go [0, 1, 2, 3, 4, 5, 6, 7, 8, 9, 10, 18, 25, 39] [] Try.func7 rfl (fun kt kz => ?_)
  have fcx := fc7A122
  simp only [Try.f7]
  have gA := eq_true hA
  have gB := eq_false hB
  refine Run (@ePoly_eta) ?_; with_reducible repeat' (first | exact True.intro | refine Lf.mk ?_ ?_ | intro hb)
  refine Cal (@ePoly_eta) (specIsPoly_ok a ha) ?_
  refine Run ((ai @ePoly_eta @gA)) ?_; with_reducible repeat' (first | exact True.intro | refine Lf.mk ?_ ?_ | intro hb)
  refine Cal (@ePoly_eta) (specIsPoly_ok b hb') ?_
  refine Run ((ai @ePoly_eta @gB)) ?_; with_reducible repeat' (first | exact True.intro | refine Lf.mk ?_ ?_ | intro hb)

end Go.VC.T
/- Cells that are counted: bounds. -/
set_option linter.unusedSimpArgs false
set_option linter.unusedVariables false
namespace Go.VC
open Go
theorem cn_flat {α : Type} {E : α → List IV} {z : α → Nat} {c : Nat} : ∀ {l : List α}, (∀ a ∈ l, cnL (E a) ≤ c + c * z a) → cnL (l.flatMap E) ≤ c * zL z l
  | [], _ => by simp [cnL]
  | a :: r, h => by
    have h1 := h a List.mem_cons_self
    have h2 := cn_flat (fun b hb => h b (List.mem_cons_of_mem _ hb)) (l := r) (E := E) (z := z) (c := c)
    rw [List.flatMap_cons, cnL_append]
    unfold zL at *
    simp only [List.length_cons, List.map_cons, List.sum_cons, Nat.mul_add, Nat.mul_one] at *
    omega
theorem cn_S {l : List ByteArray} : cnL (l.flatMap eS) ≤ 1 * zSL l := cn_flat fun a _ => by
  show cnL [.sc (.string a)] ≤ _
  rw [cnL_s, cnL_n]; omega
theorem cn_Mono (m : Mono) : cnL (eMono m) ≤ 1 + 1 * zMono m := by
  have h1 := cn_S (l := m.vars)
  rw [zMono_eta]
  show cnL [.sc (.int .i64 m.coef), .sl m.vars.length (m.vars.flatMap eS)] ≤ _
  rw [cnL_i, cnL_l, cnL_n]; omega
theorem cn_Poly {l : List Mono} : cnL (l.flatMap eMono) ≤ zPoly l := by
  rw [zPoly_eta]
  have := cn_flat (E := eMono) (z := zMono) (c := 1) (l := l) fun m _ => cn_Mono m
  omega
theorem cn_PolyC {l : List Mono} (h : ∀ m ∈ l, m.vars.length ≤ 100) : cnL (l.flatMap eMono) ≤ 200 * l.length := by
  have := cn_flat (E := eMono) (z := fun _ => 0) (c := 200) (l := l) fun m hm => by
    have h1 := cn_flat (E := eS) (z := fun _ => 0) (c := 1) (l := m.vars) fun a _ => by
      show cnL [.sc (.string a)] ≤ _
      rw [cnL_s, cnL_n]; omega
    have h2 : zL (fun _ : ByteArray => 0) m.vars = m.vars.length := by
      generalize m.vars = v
      induction v with
      | nil => rfl
      | cons a r ih => unfold zL at *; simp only [List.map_cons, List.length_cons, List.sum_cons] at *; omega
    have h3 := h m hm
    show cnL [.sc (.int .i64 m.coef), .sl m.vars.length (m.vars.flatMap eS)] ≤ _
    rw [cnL_i, cnL_l, cnL_n]; omega
  have h2 : zL (fun _ : Mono => 0) l = l.length := by
    clear this h
    induction l with
    | nil => rfl
    | cons a r ih => unfold zL at *; simp only [List.map_cons, List.length_cons, List.sum_cons] at *; omega
  omega
end Go.VC
/- The law of AddPoly: it says yes. -/
namespace Go.VC
open Go
theorem addP_ok {a b : List Mono} (ha : okPoly (2^20) a) (hb : okPoly (2^20) b) (hA : PolyOk a) (hB : PolyOk b) : okPoly (2^20) (addAll [] (a ++ b)) ∧ cnL ((addAll [] (a ++ b)).flatMap eMono) ≤ 2^50 := by
  have e : addAll [] (a ++ b) = sumM a b (a ++ b).length := (sumM_all a b).symm
  have hl := sumM_len a b (a ++ b).length
  have h1 := sumM_bnd hA hB (a ++ b).length
  have hla := hA.2
  have hlb := hB.2
  have hq : ∀ m ∈ addAll [] (a ++ b), (0 ≤ m.coef ∧ m.coef ≤ (0 : Nat) + (1000000 : Nat) * ((a ++ b).length : Int)) ∧ okLs (2^20) okS m.vars := by
    refine addAll_bnd (l := []) (C := 1000000) (D := 0) (Q := fun v => okLs (2^20) okS v) (fun m hm => ?_) (fun m h => by cases h) (fun m h => by cases h)
    have hm2 : MonoOk m ∧ okMono (2^20) m := by
      rcases List.mem_append.1 hm with h | h
      · exact ⟨polyOk_mem hA h, (okPoly_iff.1 ha).2 m h⟩
      · exact ⟨polyOk_mem hB h, (okPoly_iff.1 hb).2 m h⟩
    exact ⟨⟨by have := hm2.1.1; omega, by have := hm2.1.1; omega⟩, (okMono_iff.1 hm2.2).2⟩
  rw [← e] at h1 hl
  refine ⟨okPoly_iff.2 ⟨by omega, fun m hm => okMono_iff.2 ⟨?_, (hq m hm).2⟩⟩, ?_⟩
  · have := (h1 m hm).1
    exact ⟨by omega, by omega⟩
  · have := cn_PolyC (l := addAll [] (a ++ b)) fun m hm => by have := (h1 m hm).2; omega
    omega
end Go.VC
namespace Go.VC.T
open Go Go.VC Go.Proofs Go.VC.F
set_option linter.unusedSimpArgs false
set_option linter.unusedVariables false
set_option linter.defProp false
set_option maxRecDepth 100000
set_option maxHeartbeats 2000000
def fc3A123 := (ai (ai (ai (ai sz3 (ai ag3 zv3)) (ai un3 (ai sz4 ag4))) (ai (ai zv4 (ai un4 sz24)) (ai (ai ag24 zv24) (ai fl24_0 pl24)))) (ai (ai (ai sz28 (ai ag28 zv28)) (ai (ai fl28_0 pl28) (ai okf6 okf7))) (ai (ai okf8 (ai okf9 okf10)) (ai (ai okf11 okf12) (ai sz22 sz26)))))
theorem addPoly_gen (a b : List Mono) (ha : okPoly (2^48) a) (hb' : okPoly (2^48) b) (S : List Mono) (bb : Bool) (HT : okPoly (2^20) a → okPoly (2^20) b → okPoly (2^20) S ∧ cnL (S.flatMap eMono) ≤ 2^50) (HS : okPoly (2^20) a → okPoly (2^20) b → FnP Try.prog 7 [agT (ePoly a), agT (ePoly b)] (.tp [agT (ePoly S), bT bb])) (HI : okPoly (2^20) a → okPoly (2^20) b → FnS Try.prog 9 [] [agT (ePoly a), agT (ePoly b)] [(6000, .row S.length (S.flatMap eMono))] (.tp [.ag [.os 6000 S.length], bT bb])) : FnS Try.prog 3 [] [agT (ePoly a), agT (ePoly b)] [] (bT true) := by
  refine FnS.go [0, 1, 2, 3, 4, 5, 6, 7, 8, 9, 10, 11, 12, 13, 14, 15, 16, 21, 26, 53, 58, 63, 82, 90, 93, 110, 115, 118] [] Try.func3 rfl (fun kt kz => ?_)
  have fcx := fc3A123
  simp only [Try.f3]
  refine Run (@ePoly_eta) ?_; with_reducible repeat' (first | exact True.intro | refine Lf.mk ?_ ?_ | intro hb)
  refine Cal (@ePoly_eta) (szPoly_ok a ha 1048576 ⟨by omega, by omega⟩) ?_
  refine Run (@ePoly_eta) ?_; with_reducible repeat' (first | exact True.intro | refine Lf.mk ?_ ?_ | intro hb)
  have h1 := szR_spec (zPoly a) 1048576
  have h2 := szR_spec (zPoly b) (szR (zPoly a) 1048576)
  have ha' : okPoly (2^20) a := okPoly_down ha (by omega)
  refine Cal (@ePoly_eta) (szPoly_ok b hb' (szR (zPoly a) 1048576) ⟨by omega, by omega⟩) ?_
  refine Run (@ePoly_eta) ?_; with_reducible repeat' (first | exact True.intro | refine Lf.mk ?_ ?_ | intro hb)
  have hb2 : okPoly (2^20) b := okPoly_down hb' (by omega)
  have hsum : zPoly a + zPoly b ≤ 2^20 := by omega
  have HS' := HS ha' hb2
  have HI' := HI ha' hb2
  obtain ⟨hTo, hTz⟩ := HT ha' hb2
  have hta := toPoly_ok a ha'
  have htb := toPoly_ok b hb2
  have hca := cn_Poly (l := a)
  have hcb := cn_Poly (l := b)
  have HIt : FnP Try.prog 9 [agT (ePoly a), agT (ePoly b)] (.tp [agT (ePoly S), bT bb]) := HI'.treeP (by simp [argTs, argT, toIVL, toIV, toIV0, get_cons, Ob.len?, Ob.cells, agT, ePoly_eta, slI])
  refine Sm.drawYK [0, 1, 2, 3, 4, 5, 6, 7] 8 6 40 [(9, [], [7]), (10, [9], [])] mixed (by decide +kernel) (by simp only [get_cons, get_nil, ↓reduceIte, Nat.reduceMul, Nat.reduceEqDiff, Option.isSome_none, Option.isSome_some]) (by (simp only [List.getElem?_toArray, List.getElem?_cons_succ, List.getElem?_cons_zero]); exact rfl) (by (simp only [List.filterMap_cons, List.filterMap_nil, List.getElem?_toArray, List.getElem?_cons_succ, List.getElem?_cons_zero]); exact rfl) (by (simp only [List.filterMap_cons, List.filterMap_nil, List.getElem?_toArray, List.getElem?_cons_succ, List.getElem?_cons_zero]); exact rfl) rfl ?_; refine RunX (@ePoly_eta) ?_; with_reducible repeat' (first | exact True.intro | refine Lf.mk ?_ ?_ | intro hb)
  refine CalI (@ePoly_eta) (hta) ?_
  refine RunX (@ePoly_eta) ?_; with_reducible repeat' (first | exact True.intro | refine Lf.mk ?_ ?_ | intro hb)
  refine CalI (@ePoly_eta) (htb) ?_
  refine RunX (@ePoly_eta) ?_; with_reducible repeat' (first | exact True.intro | refine Lf.mk ?_ ?_ | intro hb)
  refine CalI (@ePoly_eta) (HS') ?_
  refine RunX (@ePoly_eta) ?_; with_reducible repeat' (first | exact True.intro | refine Lf.mk ?_ ?_ | intro hb)
  refine ⟨rfl, rfl, ?_⟩
  refine RunX (@ePoly_eta) ?_; with_reducible repeat' (first | exact True.intro | refine Lf.mk ?_ ?_ | intro hb)
  refine Cal (@ePoly_eta) (toPoly_o a ha' 2000 (by simp)) ?_
  refine RunX (@ePoly_eta) ?_; with_reducible repeat' (first | exact True.intro | refine Lf.mk ?_ ?_ | intro hb)
  refine Cal (@ePoly_eta) (toPoly_o b hb2 2010 (by simp)) ?_
  refine RunX (@ePoly_eta) ?_; with_reducible repeat' (first | exact True.intro | refine Lf.mk ?_ ?_ | intro hb)
  refine Cal (@ePoly_eta) (HI') ?_
  refine RunX (@ePoly_eta) ?_; with_reducible repeat' (first | exact True.intro | refine Lf.mk ?_ ?_ | intro hb)
  refine ⟨rfl, rfl, ?_⟩
  refine RunX (@ePoly_eta) ?_; with_reducible repeat' (first | exact True.intro | refine Lf.mk ?_ ?_ | intro hb)
  refine Cal (@ePoly_eta) (eqPoly_ok S hTo) ?_
  refine RunX (@ePoly_eta) ?_; with_reducible repeat' (first | exact True.intro | refine Lf.mk ?_ ?_ | intro hb)
  refine CalI (@ePoly_eta) (hta) ?_
  refine RunX (@ePoly_eta) ?_; with_reducible repeat' (first | exact True.intro | refine Lf.mk ?_ ?_ | intro hb)
  refine Cal (@ePoly_eta) (eqPoly_ok a ha') ?_
  refine RunX (@ePoly_eta) ?_; with_reducible repeat' (first | exact True.intro | refine Lf.mk ?_ ?_ | intro hb)
  refine CalI (@ePoly_eta) (htb) ?_
  refine RunX (@ePoly_eta) ?_; with_reducible repeat' (first | exact True.intro | refine Lf.mk ?_ ?_ | intro hb)
  refine Cal (@ePoly_eta) (eqPoly_ok b hb2) ?_
  refine RunX (@ePoly_eta) ?_; with_reducible repeat' (first | exact True.intro | refine Lf.mk ?_ ?_ | intro hb)
  refine CalO (cast_succ) (markPoly_q a 1 ⟨by omega, by omega⟩ 2000 (by simp)) ?_
  refine RunX (@ePoly_eta) ?_; with_reducible repeat' (first | exact True.intro | refine Lf.mk ?_ ?_ | intro hb)
  refine CalO (cast_succ) (markPoly_q b (1 + (cnL (a.flatMap eMono) : Int)) ⟨by omega, by omega⟩ 2010 (by simp)) ?_
  have hn1 : ((1 + (cnL (a.flatMap eMono) : Int)) + (cnL (b.flatMap eMono) : Int) < 0) = False := eq_false (by omega)
  refine RunX ((ai @ePoly_eta @hn1)) ?_; with_reducible repeat' (first | exact True.intro | refine Lf.mk ?_ ?_ | intro hb)
  refine Cal (@ePoly_eta) (eqPoly_ok S hTo) ?_
  refine RunX (@ePoly_eta) ?_; with_reducible repeat' (first | exact True.intro | refine Lf.mk ?_ ?_ | intro hb)
  refine CalO (cast_succ) (markPoly_q S 1 ⟨by omega, by omega⟩ 6000 (by simp)) ?_
  refine RunX (@ePoly_eta) ?_; with_reducible repeat' (first | exact True.intro | refine Lf.mk ?_ ?_ | intro hb)
  refine Cal (@hPoly.eq_1) (heldPoly_ok S 1 ⟨by omega, by omega⟩) ?_
  have hn2 : ((1 + (cnL (S.flatMap eMono) : Int)) < 0) = False := eq_false (by omega)
  refine RunX ((ai @ePoly_eta @hn2)) ?_; with_reducible repeat' (first | exact True.intro | refine Lf.mk ?_ ?_ | intro hb)
  refine Sm.drawYK [0, 1, 2, 3, 4, 5, 6, 7] 8 15 40 [(9, [], [7]), (10, [9], [])] mixed (by decide +kernel) (by simp only [get_cons, get_nil, ↓reduceIte, Nat.reduceMul, Nat.reduceEqDiff, Option.isSome_none, Option.isSome_some]) (by (simp only [List.getElem?_toArray, List.getElem?_cons_succ, List.getElem?_cons_zero]); exact rfl) (by (simp only [List.filterMap_cons, List.filterMap_nil, List.getElem?_toArray, List.getElem?_cons_succ, List.getElem?_cons_zero]); exact rfl) (by (simp only [List.filterMap_cons, List.filterMap_nil, List.getElem?_toArray, List.getElem?_cons_succ, List.getElem?_cons_zero]); exact rfl) rfl ?_; refine RunX (@ePoly_eta) ?_; with_reducible repeat' (first | exact True.intro | refine Lf.mk ?_ ?_ | intro hb)
  refine CalI (@ePoly_eta) (hta) ?_
  refine RunX (@ePoly_eta) ?_; with_reducible repeat' (first | exact True.intro | refine Lf.mk ?_ ?_ | intro hb)
  refine CalI (@ePoly_eta) (htb) ?_
  refine RunX (@ePoly_eta) ?_; with_reducible repeat' (first | exact True.intro | refine Lf.mk ?_ ?_ | intro hb)
  refine CalI (@ePoly_eta) (HIt) ?_
  refine RunX (@ePoly_eta) ?_; with_reducible repeat' (first | exact True.intro | refine Lf.mk ?_ ?_ | intro hb)
  refine ⟨rfl, rfl, ?_⟩
  refine RunX (@ePoly_eta) ?_; with_reducible repeat' (first | exact True.intro | refine Lf.mk ?_ ?_ | intro hb)
  refine Cal (@ePoly_eta) (eqPoly_ok S hTo) ?_
  refine RunX (@ePoly_eta) ?_; with_reducible repeat' (first | exact True.intro | refine Lf.mk ?_ ?_ | intro hb)
  refine Cal (@hPoly.eq_1) (heldPoly_ok S 1 ⟨by omega, by omega⟩) ?_
  refine RunX ((ai @ePoly_eta @hn2)) ?_; with_reducible repeat' (first | exact True.intro | refine Lf.mk ?_ ?_ | intro hb)

theorem okP_nil : okPoly (2^20) [] ∧ cnL (([] : List Mono).flatMap eMono) ≤ 2^50 := ⟨okPoly_iff.2 ⟨by simp, by simp⟩, by simp [cnL]⟩
theorem addPoly_law (a b : List Mono) (ha : okPoly (2^48) a) (hb' : okPoly (2^48) b) : FnP Try.prog 3 [agT (ePoly a), agT (ePoly b)] (bT true) := by
  by_cases hA : PolyOk a
  · by_cases hB : PolyOk b
    · by_cases hP : PolyOk (addAll [] (a ++ b))
      · refine addPoly_gen a b ha hb' (addAll [] (a ++ b)) true (fun h1 h2 => addP_ok h1 h2 hA hB) (fun h1 h2 => (specAdd_y a b h1 h2 hA hB (addP_ok h1 h2 hA hB).1 hP).treeP ?_) fun h1 h2 => ?_
        · simp [argTs, argT, toIVL, toIV, toIV0, get_cons, Ob.len?, Ob.cells, agT, ePoly_eta, slI]
        · have := (implAdd_y a b h1 h2 hA hB (addP_ok h1 h2 hA hB).1 hP).rows
          obtain ⟨p, hp⟩ := pm1 1000 6000
          refine (this.pm p).as ?_ ?_ <;> simp [rowS, rowO, renS, Ob.ren, TV.ren, renL, Cell.ren, hp]
      · refine addPoly_gen a b ha hb' [] false (fun _ _ => okP_nil) (fun h1 h2 => (specAdd_n a b h1 h2 hA hB (addP_ok h1 h2 hA hB).1 hP).treeP rfl) fun h1 h2 => ?_
        exact (implAdd_n a b h1 h2 hA hB (addP_ok h1 h2 hA hB).1 hP).nlT 0 6000 rfl rfl rfl rfl rfl rfl
    · refine addPoly_gen a b ha hb' [] false (fun _ _ => okP_nil) (fun h1 h2 => (specAdd_b a b h1 h2 hA hB).treeP rfl) fun h1 h2 => ?_
      exact (implAdd_b a b h1 h2 hA hB).nlT 0 6000 rfl rfl rfl rfl rfl rfl
  · refine addPoly_gen a b ha hb' [] false (fun _ _ => okP_nil) (fun h1 h2 => (specAdd_a a b h1 hA).treeP rfl) fun h1 h2 => ?_
    exact (implAdd_a a b h1 hA).nlT 0 6000 rfl rfl rfl rfl rfl rfl
end Go.VC.T
