/- How many generators a query has. -/
import Derived.Test.YtiohpbhdonlonaaSHead
import Derived.Test.YtiohpbhdonlonaaD9
namespace Go.VC
open Go
mutual
def cgH : Hd → Nat
  | .mk k _ _ p q => if k = 3 then cgCL q else cgHL p
def cgHL : List Hd → Nat
  | [] => 0
  | h :: r => cgH h + cgHL r
def cgC : Cmp → Nat
  | .mk g _ h => g.length + cgH h
def cgCL : List Cmp → Nat
  | [] => 0
  | c :: r => cgC c + cgCL r
end
theorem cgHL_sum : ∀ (l : List Hd), cgHL l = (l.map cgH).sum
  | [] => by rw [cgHL]; rfl
  | t :: r => by rw [cgHL, cgHL_sum r, List.map_cons, List.sum_cons]
theorem cgCL_sum : ∀ (l : List Cmp), cgCL l = (l.map cgC).sum
  | [] => by rw [cgCL]; rfl
  | t :: r => by rw [cgCL, cgCL_sum r, List.map_cons, List.sum_cons]
theorem cgH_eta (h : Hd) : cgH h = if h.kind = 3 then (h.query.map cgC).sum else (h.parts.map cgH).sum := by
  cases h with
  | mk k t l p q => rw [cgH, cgCL_sum, cgHL_sum]; rfl
theorem cgC_eta (c : Cmp) : cgC c = c.gens.length + cgH c.head := by
  cases c with
  | mk g w h => rw [cgC]; rfl
abbrev cgQ (q : List Cmp) : Nat := (q.map cgC).sum
mutual
/-- The nested queries of a head. -/
def nsH : Hd → List (List Cmp)
  | .mk k _ _ p q => if k = 3 then [q] else nsHL p
def nsHL : List Hd → List (List Cmp)
  | [] => []
  | h :: r => nsH h ++ nsHL r
end
theorem nsHL_flat : ∀ (l : List Hd), nsHL l = l.flatMap nsH
  | [] => by rw [nsHL]; rfl
  | t :: r => by rw [nsHL, nsHL_flat r, List.flatMap_cons]
theorem nsH_eta (h : Hd) : nsH h = if h.kind = 3 then [h.query] else h.parts.flatMap nsH := by
  cases h with
  | mk k t l p q => rw [nsH, nsHL_flat]; rfl
mutual
theorem nsH_len : ∀ (h : Hd), (nsH h).length ≤ 1 + zHd h
  | .mk k t l p q => by
    have h1 := nsHL_len p
    rw [nsH, zHd_eta]
    simp only [Hd.term, Hd.labels, Hd.parts, Hd.query]
    split
    · simp
    · omega
theorem nsHL_len : ∀ (l : List Hd), (nsHL l).length ≤ zL zHd l
  | [] => by rw [nsHL]; simp
  | h :: r => by
    have h1 := nsH_len h
    have h2 := nsHL_len r
    rw [nsHL, List.length_append]
    simp only [zL, List.map_cons, List.sum_cons, List.length_cons] at h2 ⊢; omega
end
mutual
/-- What is nested in a head is as right as it, and counts no more. -/
theorem nsH_in : ∀ (h : Hd) {q : List Cmp}, q ∈ nsH h → zQr q ≤ zHd h ∧ ∀ b, okHd b h → okQr b q
  | .mk k t l p q, x, hx => by
    rw [nsH] at hx
    rw [zHd_eta']
    simp only [Hd.term, Hd.labels, Hd.parts, Hd.query]
    split at hx
    · rw [List.mem_singleton] at hx; subst hx
      exact ⟨by omega, fun b hb => (okHd_iff'.1 hb).2.2.2.2⟩
    · obtain ⟨u, hu, h1, h2⟩ := nsHL_in p hx
      have := zL_mem (z := zHd) hu
      exact ⟨by omega, fun b hb => h2 b ((okHd_iff'.1 hb).2.2.2.1.2 u hu)⟩
theorem nsHL_in : ∀ (l : List Hd) {q : List Cmp}, q ∈ nsHL l → ∃ u ∈ l, zQr q ≤ zHd u ∧ ∀ b, okHd b u → okQr b q
  | [], x, hx => by rw [nsHL] at hx; cases hx
  | h :: r, x, hx => by
    rw [nsHL, List.mem_append] at hx
    rcases hx with hx | hx
    · obtain ⟨h1, h2⟩ := nsH_in h hx
      exact ⟨h, List.mem_cons_self, h1, h2⟩
    · obtain ⟨u, hu, h1⟩ := nsHL_in r hx
      exact ⟨u, List.mem_cons_of_mem _ hu, h1⟩
end
mutual
theorem nsH_cg : ∀ (h : Hd), ((nsH h).map cgQ).sum = cgH h
  | .mk k t l p q => by
    rw [nsH, cgH]
    split
    · simp [cgCL_sum]
    · exact nsHL_cg p
theorem nsHL_cg : ∀ (l : List Hd), ((nsHL l).map cgQ).sum = cgHL l
  | [] => by rw [nsHL, cgHL]; rfl
  | h :: r => by rw [nsHL, cgHL, List.map_append, List.sum_append, nsH_cg h, nsHL_cg r]
end
theorem sum_le {α : Type} {f z : α → Nat} : ∀ {l : List α}, (∀ x ∈ l, f x ≤ z x) → (l.map f).sum ≤ zL z l
  | [], _ => by simp [zL]
  | a :: r, h => by
    have h1 := h a List.mem_cons_self
    have h2 := sum_le (l := r) fun x hx => h x (List.mem_cons_of_mem _ hx)
    simp only [zL, List.map_cons, List.sum_cons, List.length_cons] at h2 ⊢; omega
mutual
theorem cgH_le : ∀ (h : Hd), cgH h ≤ zHd h
  | .mk k t l p q => by
    have h1 := cgHL_le p
    have h2 := cgCL_le q
    rw [zHd_eta, cgH]
    simp only [Hd.term, Hd.labels, Hd.parts, Hd.query]
    split <;> omega
theorem cgHL_le : ∀ (l : List Hd), cgHL l ≤ zL zHd l
  | [] => by rw [cgHL]; omega
  | h :: r => by
    have h1 := cgH_le h
    have h2 := cgHL_le r
    rw [cgHL]
    simp only [zL, List.map_cons, List.sum_cons, List.length_cons] at h2 ⊢; omega
theorem cgC_le : ∀ (c : Cmp), cgC c ≤ zCmp c
  | .mk g w h => by
    have h1 := cgH_le h
    rw [zCmp_eta, cgC]
    have := zL_len (z := zGn) (l := g)
    simp only [Cmp.gens, Cmp.wh, Cmp.head]; omega
theorem cgCL_le : ∀ (l : List Cmp), cgCL l ≤ zL zCmp l
  | [] => by rw [cgCL]; omega
  | c :: r => by
    have h1 := cgC_le c
    have h2 := cgCL_le r
    rw [cgCL]
    simp only [zL, List.map_cons, List.sum_cons, List.length_cons] at h2 ⊢; omega
end
theorem sum_take_at {α : Type} {f : α → Nat} {l : List α} {i : Nat} (h : i < l.length) : ((l.take (i + 1)).map f).sum = ((l.take i).map f).sum + f l[i] := by
  rw [take_at h, List.map_append, List.sum_append]; simp
theorem flat_one2 {α β : Type} {f : α → List β} (x : α) : [x].flatMap f = f x := by simp
theorem cgQ_ns {q : List Cmp} {h : Hd} (hm : q ∈ nsH h) : cgQ q ≤ cgH h := by
  rw [← nsH_cg h]
  have : ∀ {l : List (List Cmp)}, q ∈ l → cgQ q ≤ (l.map cgQ).sum := fun {l} hl => by
    induction l with
    | nil => cases hl
    | cons a r ih =>
      rcases List.mem_cons.1 hl with rfl | hl
      · simp only [List.map_cons, List.sum_cons]; omega
      · have := ih hl; simp only [List.map_cons, List.sum_cons]; omega
  exact this hm
end Go.VC
namespace Go.VC.T
open Go Go.VC Go.Proofs Go.VC.F
set_option linter.unusedSimpArgs false
set_option linter.unusedVariables false
set_option linter.defProp false
set_option maxRecDepth 100000
set_option maxHeartbeats 2000000
def fc152 := (And.intro (And.intro (And.intro (And.intro (And.intro sz3 ag3) (And.intro zv3 (And.intro un3 sz4))) (And.intro (And.intro ag4 zv4) (And.intro un4 (And.intro sz113 ag113)))) (And.intro (And.intro (And.intro zv113 fl113_0) (And.intro pl113 (And.intro sz212 ag212))) (And.intro (And.intro zv212 sb212) (And.intro un212 (And.intro el212 ap212))))) (And.intro (And.intro (And.intro (And.intro sz214 ag214) (And.intro zv214 (And.intro fl214_0 fl214_1))) (And.intro (And.intro fl214_2 fl214_3) (And.intro fl214_4 (And.intro pl214 sz217)))) (And.intro (And.intro (And.intro ag217 zv217) (And.intro sb217 (And.intro un217 el217))) (And.intro (And.intro ap217 okf152) (And.intro sz111 (And.intro sz77 sz38))))))
theorem specNested_of (h : Hd) (hh : okHd (2^20) h) (hz : (nsH h).length ≤ 2^20) (H : ∀ u ∈ h.parts, (nsH u).length ≤ 2^20 → FnP Try.prog 152 [agT (eHd u)] (slT eQr (nsH u))) : FnS Try.prog 152 [] [agT (eHd h)] [] (slT eQr (nsH h)) := by
  refine FnS.go [0, 1, 2, 3, 4, 8, 18] [10] Try.func152 rfl (fun kt kz => ?_)
  have fcx := fc152
  simp only [Try.f152]
  have ho := okHd_iff'.1 hh
  have hl := ho.2.2.2.1.1
  by_cases h3 : h.kind = 3
  · have e : nsH h = [h.query] := by rw [nsH_eta, if_pos h3]
    refine Run ((And.intro (And.intro @eHd_eta @eTm_eta) (And.intro @eTy_eta @h3))) ?_; repeat' (first | (with_reducible exact True.intro) | (with_reducible refine Lf.mk ?_ ?_) | (with_reducible intro hb))
    rw [e]; rfl
  · have e : nsH h = h.parts.flatMap nsH := by rw [nsH_eta, if_neg h3]
    have elen : ∀ i, (h.parts.take i).flatMap nsH = (h.parts.take i).flatMap nsH := fun _ => rfl
    refine Run ((And.intro (And.intro @eHd_eta @eTm_eta) (And.intro @eTy_eta @h3))) ?_; repeat' (first | (with_reducible exact True.intro) | (with_reducible refine Lf.mk ?_ ?_) | (with_reducible intro hb))
    refine Sm.share (10) (by simp -dsimp (maxSteps := 2000000) (disch := omega) only [vs, ↓Option.bind_some, ev1, ofV, scalarB, Kn, Kb, calleeOf, evLoad, ptr, evField, evFieldAddr, shift, ↓pt_at, ↓pt_at1, evExtract, evBin, evLen, evConv, cellsT, noS, Cell.has, Cell.hasN, Cell.anyN, toIV, toIV0, toIVs, ownC, srcM, Ob.own, Ob.esz, allSc, nilK, lenC, ownCell, isPtr, ptrNil, frzO, Cell.frz, Cell.keys, ↓reduceIte, reduceCtorEq, Nat.reduceEqDiff, Nat.reduceBEq, Nat.reduceBNe, Nat.reduceAdd, Nat.reduceMul, Nat.reduceSub, Nat.reduceLT, Nat.reduceLeDiff, Nat.reducePow, Int.reduceLT, Int.reduceLE, Int.reduceEq, Int.reduceNe, quietB, Nat.reduceMod, Int.reduceToNat, ne_eq, eq_self, exists_const, evBytes, byRow, byL, byStr_size, ifsz, ByteArray.size_append, Option.none_or, Option.some_or, fc152]) ?_; simp -dsimp (maxSteps := 2000000) (disch := omega) only [vs, ↓Option.bind_some, ev1, ofV, scalarB, Kn, Kb, calleeOf, evLoad, ptr, evField, evFieldAddr, shift, ↓pt_at, ↓pt_at1, evExtract, evBin, evLen, evConv, cellsT, noS, Cell.has, Cell.hasN, Cell.anyN, toIV, toIV0, toIVs, ownC, srcM, Ob.own, Ob.esz, allSc, nilK, lenC, ownCell, isPtr, ptrNil, frzO, Cell.frz, Cell.keys, ↓reduceIte, reduceCtorEq, Nat.reduceEqDiff, Nat.reduceBEq, Nat.reduceBNe, Nat.reduceAdd, Nat.reduceMul, Nat.reduceSub, Nat.reduceLT, Nat.reduceLeDiff, Nat.reducePow, Int.reduceLT, Int.reduceLE, Int.reduceEq, Int.reduceNe, quietB, Nat.reduceMod, Int.reduceToNat, ne_eq, eq_self, exists_const, evBytes, byRow, byL, byStr_size, ifsz, ByteArray.size_append, Option.none_or, Option.some_or, fc152, St.share]
    refine Trn (α := Nat) [3, 4, 14, 15, 16, 17, 18, 19, 20, 21, 22, 23, 24, 25, 26, 27, 28] (fun i => [(4, iT i), (3, .c (.os 10 ((h.parts.take i).flatMap nsH).length))]) (fun i => [(2, .box 214 ((eHd h).map .im)), (10, .vec 113 1 ((h.parts.take i).flatMap nsH).length (((h.parts.take i).flatMap nsH).flatMap eQr) false)]) (fun i => i ≤ h.parts.length) (fun i => h.parts.length - i) (0) (Nat.zero_le _) ((And.intro @eHd_eta (And.intro @eTm_eta @eTy_eta))) ?_; intro lx hI; obtain i := lx; (try simp only [List.nil_append, List.cons_append] at hI ⊢)
    by_cases hlt : lx < h.parts.length
    · have e2 : (h.parts.take (lx + 1)).flatMap nsH = (h.parts.take lx).flatMap nsH ++ nsH h.parts[lx] := by rw [take_at hlt, List.flatMap_append, flat_one2]
      have h5 : ((h.parts.take (lx + 1)).flatMap nsH).length ≤ (nsH h).length := by
        rw [e]
        conv => rhs; rw [← List.take_append_drop (lx + 1) h.parts, List.flatMap_append, List.length_append]
        omega
      have h6 : ((h.parts.take lx).flatMap nsH).length + (nsH h.parts[lx]).length ≤ (nsH h).length := by rw [← List.length_append, ← e2]; exact h5
      refine Run ((And.intro (And.intro @eHd_eta @eTm_eta) (And.intro @eTy_eta @hlt))) ?_; repeat' (first | (with_reducible exact True.intro) | (with_reducible refine Lf.mk ?_ ?_) | (with_reducible intro hb))
      have e3 : (((h.parts.take lx).flatMap nsH).flatMap eQr) ++ ((nsH h.parts[lx]).flatMap eQr) = ((h.parts.take (lx + 1)).flatMap nsH).flatMap eQr := by rw [e2, List.flatMap_append]
      have e4 : ((nsH h.parts[lx]).flatMap eQr).length = (nsH h.parts[lx]).length := by rw [flat_len']; omega
      have e5 : ((h.parts.take lx).flatMap nsH).length + (nsH h.parts[lx]).length = ((h.parts.take (lx + 1)).flatMap nsH).length := by rw [e2, List.length_append]
      refine CalI ((And.intro (And.intro @eHd_eta @eTm_eta) (And.intro @eTy_eta @e4))) (H _ (List.getElem_mem hlt) (by omega)) ?_
      refine Run ((And.intro (And.intro @eHd_eta (And.intro @eTm_eta @eTy_eta)) (And.intro @e3 (And.intro @e4 @e5)))) ?_; repeat' (first | (with_reducible exact True.intro) | (with_reducible refine Lf.mk ?_ ?_) | (with_reducible intro hb))
      exact Nxt ((And.intro (And.intro @eHd_eta @eTm_eta) (And.intro @eTy_eta (And.intro @e3 @e5)))) (lx + 1) (by omega) (by first | omega | (simp; omega))
    · have e2 : (h.parts.take lx).flatMap nsH = nsH h := by rw [e, List.take_of_length_le (by omega)]
      refine Run ((And.intro (And.intro @eHd_eta @eTm_eta) (And.intro @eTy_eta (And.intro @hlt @e2)))) ?_; repeat' (first | (with_reducible exact True.intro) | (with_reducible refine Lf.mk ?_ ?_) | (with_reducible intro hb))
def fc155 := (And.intro (And.intro (And.intro sz3 (And.intro ag3 zv3)) (And.intro (And.intro un3 sz113) (And.intro ag113 zv113))) (And.intro (And.intro (And.intro fl113_0 pl113) (And.intro sz221 ag221)) (And.intro (And.intro zv221 un221) (And.intro okf69 sz111))))
theorem implCG1_of (q : List Cmp) (r : List IV) (n : Int) (hn : 0 ≤ n ∧ n + (cgQ q : Int) ≤ 2^60) (H : FnP Try.prog 69 [agT (eQr q)] (iT (cgQ q : Int))) : FnS Try.prog 155 [(1, .box 3 [.im (.sc (.int .i64 n))])] [.c (.im (.pt (eQr q ++ r))), .c (.rf 1 0)] [(1, .box 3 [.im (.sc (.int .i64 (n + (cgQ q : Int))))])] (.tp []) := by
  refine FnS.go [0, 1] [] Try.func155 rfl (fun kt kz => ?_)
  have fcx := fc155
  simp only [Try.f155]
  refine Run (@eQr_eta) ?_; repeat' (first | (with_reducible exact True.intro) | (with_reducible refine Lf.mk ?_ ?_) | (with_reducible intro hb))
  refine Cal (@eQr_eta) (H) ?_
  refine Run (@eQr_eta) ?_; repeat' (first | (with_reducible exact True.intro) | (with_reducible refine Lf.mk ?_ ?_) | (with_reducible intro hb))
def fc154 := (And.intro (And.intro (And.intro (And.intro (And.intro sz3 ag3) (And.intro zv3 un3)) (And.intro (And.intro sz4 ag4) (And.intro zv4 (And.intro un4 sz212)))) (And.intro (And.intro (And.intro ag212 zv212) (And.intro sb212 (And.intro un212 el212))) (And.intro (And.intro ap212 sz214) (And.intro ag214 (And.intro zv214 fl214_0))))) (And.intro (And.intro (And.intro (And.intro fl214_1 fl214_2) (And.intro fl214_3 (And.intro fl214_4 pl214))) (And.intro (And.intro sz221 ag221) (And.intro zv221 (And.intro un221 sz222)))) (And.intro (And.intro (And.intro ag222 zv222) (And.intro sz226 (And.intro ag226 zv226))) (And.intro (And.intro un226 okf154) (And.intro sz77 (And.intro sz38 sz113))))))
theorem implNested_of (h : Hd) (hh : okHd (2^20) h) (r : List IV) (n : Int) (hn : 0 ≤ n ∧ n + (cgH h : Int) ≤ 2^60) (H0 : ∀ u ∈ h.parts, ∀ (r : List IV) (n : Int), 0 ≤ n ∧ n + (cgH u : Int) ≤ 2^60 → FnS Try.prog 154 [(1, .box 3 [.im (.sc (.int .i64 n))])] [.c (.im (.pt (eHd u ++ r))), .c (.fn 155 [.rf 1 0])] [(1, .box 3 [.im (.sc (.int .i64 (n + (cgH u : Int))))])] (.tp [])) (H1 : FnP Try.prog 69 [agT (eQr h.query)] (iT (cgQ h.query : Int))) : FnS Try.prog 154 [(1, .box 3 [.im (.sc (.int .i64 n))])] [.c (.im (.pt (eHd h ++ r))), .c (.fn 155 [.rf 1 0])] [(1, .box 3 [.im (.sc (.int .i64 (n + (cgH h : Int))))])] (.tp []) := by
  refine FnS.go [0, 1, 4, 9, 19, 20, 21] [] Try.func154 rfl (fun kt kz => ?_)
  have fcx := fc154
  simp only [Try.f154]
  have ho := okHd_iff'.1 hh
  have hl := ho.2.2.2.1.1
  have hg : fnOk Try.prog 155 = true := by decide +kernel
  by_cases h3 : h.kind = 3
  · have e : cgH h = cgQ h.query := by rw [cgH_eta, if_pos h3]
    refine Run ((And.intro (And.intro (eHd_eta h) (eTm_eta h.term)) (And.intro @h3 @hg))) ?_; repeat' (first | (with_reducible exact True.intro) | (with_reducible refine Lf.mk ?_ ?_) | (with_reducible intro hb))
    refine CalO (cast_succ) (implCG1_of h.query _ n ⟨by omega, by omega⟩ H1) ?_
    refine Run (@e) ?_; repeat' (first | (with_reducible exact True.intro) | (with_reducible refine Lf.mk ?_ ?_) | (with_reducible intro hb))
  · have e : cgH h = (h.parts.map cgH).sum := by rw [cgH_eta, if_neg h3]
    refine Run ((And.intro (And.intro (eHd_eta h) (eTm_eta h.term)) (And.intro @h3 @hg))) ?_; repeat' (first | (with_reducible exact True.intro) | (with_reducible refine Lf.mk ?_ ?_) | (with_reducible intro hb))
    refine Trn (α := Nat) [4, 20, 21, 22, 23, 24, 25, 26, 27, 28, 29, 30, 31] (fun i => [(20, iT i)]) (fun i => [(1, .box 3 [.im (.sc (.int .i64 (n + (((h.parts.take i).map cgH).sum : Nat))))])]) (fun i => i ≤ h.parts.length) (fun i => h.parts.length - i) (0) (Nat.zero_le _) ((And.intro (And.intro (show ([] : List Nat).sum = 0 from rfl) (List.take_zero (l := h.parts))) (And.intro (List.map_nil (f := cgH)) (And.intro @Int.ofNat_zero @Int.add_zero)))) ?_; intro lx hI; obtain i := lx; (try simp only [List.nil_append, List.cons_append] at hI ⊢)
    by_cases hlt : lx < h.parts.length
    · have h4 := sum_take_at (f := cgH) hlt
      have h5 : ((h.parts.take (lx + 1)).map cgH).sum ≤ cgH h := by rw [e]; exact sum_take_le
      refine Run ((And.intro (And.intro (eHd_eta h) (eTm_eta h.term)) (And.intro @hlt @hg))) ?_; repeat' (first | (with_reducible exact True.intro) | (with_reducible refine Lf.mk ?_ ?_) | (with_reducible intro hb))
      refine CalO (cast_succ) (H0 _ (List.getElem_mem hlt) _ (n + (((h.parts.take lx).map cgH).sum : Nat)) ⟨by omega, by omega⟩) ?_
      refine Run (cast_succ) ?_; repeat' (first | (with_reducible exact True.intro) | (with_reducible refine Lf.mk ?_ ?_) | (with_reducible intro hb))
      have e2 : n + (((h.parts.take lx).map cgH).sum : Nat) + (cgH h.parts[lx] : Int) = n + (((h.parts.take (lx + 1)).map cgH).sum : Nat) := by omega
      exact Nxt (@e2) (lx + 1) (by omega) (by first | omega | (simp; omega))
    · have e2 : ((h.parts.take lx).map cgH).sum = cgH h := by rw [e, List.take_of_length_le (by omega)]
      refine Run ((And.intro @hlt @e2)) ?_; repeat' (first | (with_reducible exact True.intro) | (with_reducible refine Lf.mk ?_ ?_) | (with_reducible intro hb))

theorem specNested_ok (h : Hd) (hh : okHd (2^20) h) (hz : (nsH h).length ≤ 2^20) : FnP Try.prog 152 [agT (eHd h)] (slT eQr (nsH h)) := specNested_of h hh hz fun u hu hz => specNested_ok u ((okHd_iff'.1 hh).2.2.2.1.2 u hu) hz
termination_by SizeOf.sizeOf h
decreasing_by exact Hd.memP hu
theorem nestK {u : Hd} {r : List IV} {n m : Int} (k : Nat) (h : FnS Try.prog 154 [(1, .box 3 [.im (.sc (.int .i64 n))])] [.c (.im (.pt (eHd u ++ r))), .c (.fn 155 [.rf 1 0])] [(1, .box 3 [.im (.sc (.int .i64 m))])] (.tp [])) :
    FnS Try.prog 154 [(k, .box 3 [.im (.sc (.int .i64 n))])] [.c (.im (.pt (eHd u ++ r))), .c (.fn 155 [.rf k 0])] [(k, .box 3 [.im (.sc (.int .i64 m))])] (.tp []) := by
  obtain ⟨p, hp⟩ := pm1 1 k
  refine (h.renA p).asA ?_ ?_ ?_ ?_ <;> simp [renS, Ob.ren, TV.ren, renL, Cell.ren, hp]
def fc69 := (And.intro (And.intro (And.intro (And.intro (And.intro sz3 ag3) (And.intro zv3 (And.intro un3 sz111))) (And.intro (And.intro ag111 (And.intro zv111 sb111)) (And.intro un111 (And.intro el111 ap111)))) (And.intro (And.intro (And.intro sz113 (And.intro ag113 zv113)) (And.intro fl113_0 (And.intro pl113 sz195))) (And.intro (And.intro ag195 (And.intro zv195 sb195)) (And.intro un195 (And.intro el195 ap195))))) (And.intro (And.intro (And.intro (And.intro sz214 (And.intro ag214 zv214)) (And.intro fl214_0 (And.intro fl214_1 fl214_2))) (And.intro (And.intro fl214_3 (And.intro fl214_4 pl214)) (And.intro sz216 (And.intro ag216 zv216)))) (And.intro (And.intro (And.intro fl216_0 (And.intro fl216_1 fl216_2)) (And.intro pl216 (And.intro sz222 ag222))) (And.intro (And.intro zv222 (And.intro okf154 okf155)) (And.intro sz77 (And.intro sz38 sz212))))))
theorem implCG_of (q : List Cmp) (hqo : okQr (2^20) q) (hn : cgQ q ≤ 2^60) (H : ∀ c ∈ q, ∀ (r : List IV) (n : Int), 0 ≤ n ∧ n + (cgH c.head : Int) ≤ 2^60 → FnS Try.prog 154 [(1, .box 3 [.im (.sc (.int .i64 n))])] [.c (.im (.pt (eHd c.head ++ r))), .c (.fn 155 [.rf 1 0])] [(1, .box 3 [.im (.sc (.int .i64 (n + (cgH c.head : Int))))])] (.tp [])) : FnS Try.prog 69 [] [agT (eQr q)] [] (iT (cgQ q : Int)) := by
  refine FnS.go [0, 1, 2, 3, 4, 7, 8, 9] [] Try.func69 rfl (fun kt kz => ?_)
  have fcx := fc69
  simp only [Try.f69]
  have ho := okQr_iff.1 hqo
  have hl := ho.1
  refine Run (@eQr_eta) ?_; repeat' (first | (with_reducible exact True.intro) | (with_reducible refine Lf.mk ?_ ?_) | (with_reducible intro hb))
  refine Trn (α := Nat) [4, 8, 9, 10, 11, 12, 13, 14, 15, 16, 17, 18, 19, 20, 21, 22, 23, 24, 25, 26, 27] (fun i => [(8, iT i)]) (fun i => [(2, .box 113 ((eQr q).map .im)), (6, .box 3 [.im (.sc (.int .i64 ((((q.take i).map cgC).sum : Nat) : Int)))])]) (fun i => i ≤ q.length) (fun i => q.length - i) (0) (Nat.zero_le _) ((And.intro (And.intro @eQr_eta (show ([] : List Nat).sum = 0 from rfl)) (And.intro (List.take_zero (l := q)) (And.intro (List.map_nil (f := cgC)) @Int.ofNat_zero)))) ?_; intro lx hI; obtain i := lx; (try simp only [List.nil_append, List.cons_append] at hI ⊢)
  by_cases hlt : lx < q.length
  · have h4 := sum_take_at (f := cgC) hlt
    have h5 : ((q.take (lx + 1)).map cgC).sum ≤ cgQ q := sum_take_le
    have h6 := cgC_eta q[lx]
    refine Run ((And.intro (And.intro @eQr_eta (And.intro @eCmp_eta @eHd_eta)) (And.intro @eTm_eta (And.intro @eTy_eta @hlt)))) ?_; repeat' (first | (with_reducible exact True.intro) | (with_reducible refine Lf.mk ?_ ?_) | (with_reducible intro hb))
    refine CalO ((And.intro @eHd_eta (And.intro @eTm_eta @eTy_eta))) (nestK 6 (H _ (List.getElem_mem hlt) _ ((((q.take lx).map cgC).sum : Nat) + (q[lx].gens.length : Int)) ⟨by omega, by omega⟩)) ?_
    refine Run (cast_succ) ?_; repeat' (first | (with_reducible exact True.intro) | (with_reducible refine Lf.mk ?_ ?_) | (with_reducible intro hb))
    have e2 : ((((q.take lx).map cgC).sum : Nat) : Int) + (q[lx].gens.length : Int) + (cgH q[lx].head : Int) = (((q.take (lx + 1)).map cgC).sum : Nat) := by omega
    exact Nxt ((And.intro @eQr_eta @e2)) (lx + 1) (by omega) (by first | omega | (simp; omega))
  · have e2 : ((q.take lx).map cgC).sum = cgQ q := by rw [List.take_of_length_le (by omega)]
    refine Run ((And.intro @hlt (And.intro @e2 @eQr_eta))) ?_; repeat' (first | (with_reducible exact True.intro) | (with_reducible refine Lf.mk ?_ ?_) | (with_reducible intro hb))

theorem zHd_parts {h u : Hd} (hu : u ∈ h.parts) : zHd u ≤ zHd h := by have := zL_mem (z := zHd) hu; rw [zHd_eta h]; omega
theorem zHd_query {h : Hd} : zQr h.query ≤ zHd h := by rw [zHd_eta' h]; omega
theorem zQr_head {q : List Cmp} {c : Cmp} (hc : c ∈ q) : zHd c.head < zQr q := by
  rw [zQr_eta]
  have h1 : zHd c.head ≤ zCmp c := by rw [zCmp_eta]; omega
  have h2 : ∀ {l : List Cmp}, c ∈ l → zCmp c < zL zCmp l := fun {l} hl => by
    induction l with
    | nil => cases hl
    | cons a r ih =>
      rcases List.mem_cons.1 hl with rfl | hl
      · simp only [zL, List.map_cons, List.sum_cons, List.length_cons]; omega
      · have := ih hl; simp only [zL, List.map_cons, List.sum_cons, List.length_cons] at this ⊢; omega
  have := h2 hc
  omega
theorem cgQ_le (q : List Cmp) : cgQ q ≤ zQr q := by have := cgCL_le q; rw [cgCL_sum] at this; rw [zQr_eta]; exact this
theorem implNested_ok (h : Hd) (hh : okHd (2^20) h) (hz : zHd h ≤ 2^60) (r : List IV) (n : Int) (hn : 0 ≤ n ∧ n + (cgH h : Int) ≤ 2^60) : FnS Try.prog 154 [(1, .box 3 [.im (.sc (.int .i64 n))])] [.c (.im (.pt (eHd h ++ r))), .c (.fn 155 [.rf 1 0])] [(1, .box 3 [.im (.sc (.int .i64 (n + (cgH h : Int))))])] (.tp []) :=
  implNested_of h hh r n hn (fun u hu r n hn => implNested_ok u ((okHd_iff'.1 hh).2.2.2.1.2 u hu) (by have := zHd_parts hu; omega) r n hn)
    (implCG_of h.query (okHd_iff'.1 hh).2.2.2.2 (by have := cgQ_le h.query; have := zHd_query (h := h); omega) fun c hc r n hn => implNested_ok c.head (okCmp_iff.1 ((okQr_iff.1 (okHd_iff'.1 hh).2.2.2.2).2 c hc)).2.2 (by have := zQr_head hc; have := zHd_query (h := h); omega) r n hn)
termination_by SizeOf.sizeOf h
decreasing_by
  · exact Hd.memP hu
  · have := Hd.memQ hc; have := Cmp.memH c; omega
theorem implCG_ok (q : List Cmp) (hqo : okQr (2^20) q) (hz : zQr q ≤ 2^60) : FnP Try.prog 69 [agT (eQr q)] (iT (cgQ q : Int)) :=
  implCG_of q hqo (by have := cgQ_le q; omega) fun c hc r n hn => implNested_ok c.head (okCmp_iff.1 ((okQr_iff.1 hqo).2 c hc)).2.2 (by have := zQr_head hc; omega) r n hn
def fc67 := (And.intro (And.intro (And.intro (And.intro (And.intro sz3 (And.intro ag3 zv3)) (And.intro un3 (And.intro sz4 ag4))) (And.intro (And.intro zv4 (And.intro un4 sz111)) (And.intro (And.intro ag111 zv111) (And.intro sb111 un111)))) (And.intro (And.intro (And.intro el111 (And.intro ap111 sz113)) (And.intro (And.intro ag113 zv113) (And.intro fl113_0 pl113))) (And.intro (And.intro sz195 (And.intro ag195 zv195)) (And.intro (And.intro sb195 un195) (And.intro el195 ap195))))) (And.intro (And.intro (And.intro (And.intro sz214 (And.intro ag214 zv214)) (And.intro (And.intro fl214_0 fl214_1) (And.intro fl214_2 fl214_3))) (And.intro (And.intro fl214_4 (And.intro pl214 sz216)) (And.intro (And.intro ag216 zv216) (And.intro fl216_0 fl216_1)))) (And.intro (And.intro (And.intro fl216_2 (And.intro pl216 sz217)) (And.intro (And.intro ag217 zv217) (And.intro sb217 un217))) (And.intro (And.intro el217 (And.intro ap217 okf67)) (And.intro (And.intro okf152 sz77) (And.intro sz38 sz212))))))
theorem specCG_of (q : List Cmp) (hqo : okQr (2^20) q) (hz : zQr q ≤ 2^20) (H : ∀ p, okQr (2^20) p → zQr p < zQr q → FnP Try.prog 67 [agT (eQr p)] (iT (cgQ p : Int))) : FnS Try.prog 67 [] [agT (eQr q)] [] (iT (cgQ q : Int)) := by
  refine FnS.go [0, 1, 2, 3, 4, 5, 6, 11, 33] [] Try.func67 rfl (fun kt kz => ?_)
  have fcx := fc67
  simp only [Try.f67]
  have ho := okQr_iff.1 hqo
  have hl := ho.1
  have hcq := cgQ_le q
  refine Run (@eQr_eta) ?_; repeat' (first | (with_reducible exact True.intro) | (with_reducible refine Lf.mk ?_ ?_) | (with_reducible intro hb))
  refine Trn (α := Nat) [3, 4, 5, 6, 7, 8, 9, 10, 11, 12, 13, 14, 15, 16, 17, 18, 19, 20, 21, 22, 23, 24, 25, 26, 27, 28, 29, 30, 31, 32, 33, 34, 35, 36, 37, 38, 39, 40, 41, 42] (fun i => [(4, iT i), (3, iT ((((q.take i).map cgC).sum : Nat) : Int))]) (fun i => [(2, .box 113 ((eQr q).map .im))]) (fun i => i ≤ q.length) (fun i => q.length - i) (0) (Nat.zero_le _) ((And.intro (And.intro @eQr_eta (show ([] : List Nat).sum = 0 from rfl)) (And.intro (List.take_zero (l := q)) (And.intro (List.map_nil (f := cgC)) @Int.ofNat_zero)))) ?_; intro lx hI; obtain i := lx; (try simp only [List.nil_append, List.cons_append] at hI ⊢)
  by_cases hlt : lx < q.length
  · have h4 := sum_take_at (f := cgC) hlt
    have h5 : ((q.take (lx + 1)).map cgC).sum ≤ cgQ q := sum_take_le
    have h6 := cgC_eta q[lx]
    have hc := List.getElem_mem hlt
    have hzh := zQr_head hc
    have hns := nsH_len q[lx].head
    have hcg := nsH_cg q[lx].head
    have hkh := (okCmp_iff.1 (ho.2 _ hc)).2.2
    refine Run ((And.intro (And.intro @eQr_eta (And.intro @eCmp_eta @eHd_eta)) (And.intro @eTm_eta (And.intro @eTy_eta @hlt)))) ?_; repeat' (first | (with_reducible exact True.intro) | (with_reducible refine Lf.mk ?_ ?_) | (with_reducible intro hb))
    refine CalI ((And.intro @eHd_eta (And.intro @eTm_eta @eTy_eta))) (specNested_ok q[lx].head hkh (by omega)) ?_
    refine Run (@eQr_eta) ?_; repeat' (first | (with_reducible exact True.intro) | (with_reducible refine Lf.mk ?_ ?_) | (with_reducible intro hb))
    refine Trn (α := Nat) [3, 6, 30, 31, 32, 33, 34, 35, 36, 37, 38, 39, 40, 41, 42] (fun j => [(6, iT j), (3, iT (((((q.take lx).map cgC).sum : Nat) : Int) + (q[lx].gens.length : Int) + ((((nsH q[lx].head).take j).map cgQ).sum : Nat)))]) (fun j => [(2, .box 113 ((eQr q).map .im))]) (fun j => j ≤ (nsH q[lx].head).length) (fun j => (nsH q[lx].head).length - j) (0) (Nat.zero_le _) ((And.intro (And.intro @eQr_eta (And.intro (show ([] : List Nat).sum = 0 from rfl) (List.take_zero (l := nsH q[lx].head)))) (And.intro (List.map_nil (f := cgQ)) (And.intro @Int.ofNat_zero @Int.add_zero)))) ?_; intro ly hJ; obtain j := ly; (try simp only [List.nil_append, List.cons_append] at hJ ⊢)
    by_cases hlj : ly < (nsH q[lx].head).length
    · have g4 := sum_take_at (f := cgQ) hlj
      have g5 : (((nsH q[lx].head).take (ly + 1)).map cgQ).sum ≤ ((nsH q[lx].head).map cgQ).sum := sum_take_le
      have g6 := nsH_in q[lx].head (List.getElem_mem hlj)
      refine Run ((And.intro @eQr_eta @hlj)) ?_; repeat' (first | (with_reducible exact True.intro) | (with_reducible refine Lf.mk ?_ ?_) | (with_reducible intro hb))
      refine Cal (@eQr_eta) (H _ (g6.2 _ hkh) (by omega)) ?_
      refine Run (cast_succ) ?_; repeat' (first | (with_reducible exact True.intro) | (with_reducible refine Lf.mk ?_ ?_) | (with_reducible intro hb))
      have e2 : ((((q.take lx).map cgC).sum : Nat) : Int) + (q[lx].gens.length : Int) + ((((nsH q[lx].head).take ly).map cgQ).sum : Nat) + (cgQ (nsH q[lx].head)[ly] : Int) = ((((q.take lx).map cgC).sum : Nat) : Int) + (q[lx].gens.length : Int) + ((((nsH q[lx].head).take (ly + 1)).map cgQ).sum : Nat) := by omega
      exact Nxt ((And.intro @eQr_eta @e2)) (ly + 1) (by omega) (by first | omega | (simp; omega))
    · have g7 : (((nsH q[lx].head).take ly).map cgQ).sum = cgH q[lx].head := by rw [List.take_of_length_le (by omega), hcg]
      have e2 : ((((q.take lx).map cgC).sum : Nat) : Int) + (q[lx].gens.length : Int) + ((((nsH q[lx].head).take ly).map cgQ).sum : Nat) = (((q.take (lx + 1)).map cgC).sum : Nat) := by omega
      refine Run ((And.intro @eQr_eta (And.intro @hlj @e2))) ?_; repeat' (first | (with_reducible exact True.intro) | (with_reducible refine Lf.mk ?_ ?_) | (with_reducible intro hb))
      exact Nxt ((And.intro @eQr_eta @e2)) (lx + 1) (by omega) (by first | omega | (simp; omega))
  · have e2 : ((q.take lx).map cgC).sum = cgQ q := by rw [List.take_of_length_le (by omega)]
    refine Run ((And.intro @hlt (And.intro @e2 @eQr_eta))) ?_; repeat' (first | (with_reducible exact True.intro) | (with_reducible refine Lf.mk ?_ ?_) | (with_reducible intro hb))

theorem specCG_ok (q : List Cmp) (hqo : okQr (2^20) q) (hz : zQr q ≤ 2^20) : FnP Try.prog 67 [agT (eQr q)] (iT (cgQ q : Int)) := specCG_of q hqo hz fun p hp hlt => specCG_ok p hp (by omega)
termination_by zQr q
def fc12 := (And.intro (And.intro (And.intro (And.intro sz3 (And.intro ag3 zv3)) (And.intro un3 (And.intro sz4 ag4))) (And.intro (And.intro zv4 (And.intro un4 sz108)) (And.intro ag108 (And.intro zv108 fl108_0)))) (And.intro (And.intro (And.intro pl108 (And.intro sz113 ag113)) (And.intro zv113 (And.intro fl113_0 pl113))) (And.intro (And.intro okf66 (And.intro okf67 okf68)) (And.intro (And.intro okf69 okf70) (And.intro sz106 sz111)))))
theorem countGens_law (a : List Cmp) (ha : okQr (2^48) a) : FnS Try.prog 12 [] [agT (eQr a)] [] (bT true) := by
  refine FnS.go [0, 1, 2, 3, 4, 5, 6, 11, 21, 26] [] Try.func12 rfl (fun kt kz => ?_)
  have fcx := fc12
  simp only [Try.f12]
  refine Run (@eQr_eta) ?_; repeat' (first | (with_reducible exact True.intro) | (with_reducible refine Lf.mk ?_ ?_) | (with_reducible intro hb))
  refine Cal (@eQr_eta) (szQuery_ok a ha 1048576 ⟨by omega, by omega⟩) ?_
  refine Run (@eQr_eta) ?_; repeat' (first | (with_reducible exact True.intro) | (with_reducible refine Lf.mk ?_ ?_) | (with_reducible intro hb))
  have h1 := szR_spec (zQr a) 1048576
  have ha' : okQr (2^20) a := okQr_down ha (by omega)
  have hta := toQuery_ok a ha'
  refine CalI (@eQr_eta) (hta) ?_
  refine Run (@eQr_eta) ?_; repeat' (first | (with_reducible exact True.intro) | (with_reducible refine Lf.mk ?_ ?_) | (with_reducible intro hb))
  refine Cal (@eQr_eta) (specCG_ok a ha' (by omega)) ?_
  refine Run (@eQr_eta) ?_; repeat' (first | (with_reducible exact True.intro) | (with_reducible refine Lf.mk ?_ ?_) | (with_reducible intro hb))
  refine CalI (@eQr_eta) (hta) ?_
  refine Run (@eQr_eta) ?_; repeat' (first | (with_reducible exact True.intro) | (with_reducible refine Lf.mk ?_ ?_) | (with_reducible intro hb))
  refine Cal (@eQr_eta) (implCG_ok a ha' (by omega)) ?_
  refine Run (@eQr_eta) ?_; repeat' (first | (with_reducible exact True.intro) | (with_reducible refine Lf.mk ?_ ?_) | (with_reducible intro hb))
  refine CalI (@eQr_eta) (hta) ?_
  refine Run (@eQr_eta) ?_; repeat' (first | (with_reducible exact True.intro) | (with_reducible refine Lf.mk ?_ ?_) | (with_reducible intro hb))
  refine Cal (@eQr_eta) (eqQuery_ok a ha') ?_
  refine Run (@eQr_eta) ?_; repeat' (first | (with_reducible exact True.intro) | (with_reducible refine Lf.mk ?_ ?_) | (with_reducible intro hb))

end Go.VC.T
