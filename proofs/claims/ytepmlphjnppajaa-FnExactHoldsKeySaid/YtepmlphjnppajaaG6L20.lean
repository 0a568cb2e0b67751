/- Conjuncts of a condition. -/
import Derived.Test.YtepmlphjnppajaaGW4
import Derived.Test.YtepmlphjnppajaaG5L20
namespace Go.VC.T
open Go Go.VC Go.Proofs Go.VC.F
set_option linter.unusedSimpArgs false
set_option linter.unusedVariables false
set_option linter.defProp false
set_option maxRecDepth 100000
set_option maxHeartbeats 2000000
def fc180A32 := (And.intro (And.intro (And.intro (And.intro (And.intro sz3 ag3) (And.intro zv3 un3)) (And.intro (And.intro sz4 ag4) (And.intro zv4 un4))) (And.intro (And.intro (And.intro sz9 ag9) (And.intro zv9 un9)) (And.intro (And.intro sz78 ag78) (And.intro zv78 sb78)))) (And.intro (And.intro (And.intro (And.intro un78 el78) (And.intro ap78 sz80)) (And.intro (And.intro ag80 zv80) (And.intro fl80_0 fl80_1))) (And.intro (And.intro (And.intro fl80_2 fl80_3) (And.intro fl80_4 fl80_5)) (And.intro (And.intro pl80 okf180) (And.intro sz77 sz63)))))
theorem conj_of (t : Tm) (ht : okTm (2^20) t) (xs : List Tm) (hx : xs.length + (partsT t).length ≤ 2^20) (H : ∀ u ∈ t.args, ∀ ys : List Tm, ys.length + (partsT u).length ≤ 2^20 → FnS Try.prog 180 [(1, .vec 80 8 ys.length (ys.flatMap eTm) false)] [agT (eTm u), .c (.os 1 ys.length)] [(1, .vec 80 8 (ys.length + (partsT u).length) (ys.flatMap eTm ++ (partsT u).flatMap eTm) false)] (.c (.os 1 (ys.length + (partsT u).length)))) : FnS Try.prog 180 [(1, .vec 80 8 xs.length (xs.flatMap eTm) false)] [agT (eTm t), .c (.os 1 xs.length)] [(1, .vec 80 8 (xs.length + (partsT t).length) (xs.flatMap eTm ++ (partsT t).flatMap eTm) false)] (.c (.os 1 (xs.length + (partsT t).length))) := by
  refine FnS.go [0, 1, 2, 4, 18] [] Try.func180 rfl (fun kt kz => ?_)
  have fcx := fc180A32
  simp only [Try.f180]
  have dm : Dm 9 6 [[0, 1, 2, 3], [], []] := ⟨⟩
  have ho := okTm_iff.1 ht
  have hl := ho.2.2.2.2.2.1
  by_cases h1 : t.kind = 4
  · by_cases h2 : t.name = ⟨#[38]⟩
    · by_cases h3 : t.args.length = 2
      · have h30 : 0 < t.args.length := by omega
        have h31 : 1 < t.args.length := by omega
        have hp := partsT_and ⟨h1, h2, h3⟩ h30 h31
        have h3' : (t.args.length : Int) = 2 := by omega
        refine RunX ((And.intro (And.intro @eTm_eta (And.intro @eTy_eta @h1)) (And.intro (And.intro @h2 @h3') (And.intro @h30 @h31)))) ?_; repeat' (first | (with_reducible exact True.intro) | (with_reducible refine Lf.mk ?_ ?_) | (with_reducible intro hb))
        have hn : (partsT t).length = (partsT t.args[0]).length + (partsT t.args[1]).length := by rw [hp, List.length_append]
        have H0 := H _ (List.getElem_mem h30) xs (by omega)
        have H1 := H _ (List.getElem_mem h31) (xs ++ partsT t.args[0]) (by rw [List.length_append]; omega)
        rw [List.length_append, List.flatMap_append] at H1
        refine CalO ((And.intro @eTm_eta @eTy_eta)) (H0) ?_
        refine RunX ((And.intro @eTm_eta @eTy_eta)) ?_; repeat' (first | (with_reducible exact True.intro) | (with_reducible refine Lf.mk ?_ ?_) | (with_reducible intro hb))
        refine CalO ((And.intro @eTm_eta @eTy_eta)) (H1) ?_
        refine RunX ((And.intro @eTm_eta @eTy_eta)) ?_; repeat' (first | (with_reducible exact True.intro) | (with_reducible refine Lf.mk ?_ ?_) | (with_reducible intro hb))
        all_goals simp only [hp, List.length_append, List.flatMap_append, Nat.add_assoc, List.append_assoc]
      · have hp := partsT_one (t := t) fun h => h3 h.2.2
        have h3' : ¬ (t.args.length : Int) = 2 := by omega
        refine RunX ((And.intro (And.intro @eTm_eta (And.intro @eTy_eta @h1)) (And.intro @h2 (And.intro @h3' @hp)))) ?_; repeat' (first | (with_reducible exact True.intro) | (with_reducible refine Lf.mk ?_ ?_) | (with_reducible intro hb))
        simp only [flat_one, eTm_eta t, slI, h1, h2]
    · have hp := partsT_one (t := t) fun h => h2 h.2.1
      refine RunX ((And.intro (And.intro @eTm_eta @eTy_eta) (And.intro @h1 (And.intro @h2 @hp)))) ?_; repeat' (first | (with_reducible exact True.intro) | (with_reducible refine Lf.mk ?_ ?_) | (with_reducible intro hb))
      simp only [flat_one, eTm_eta t, slI, h1]
  · have hp := partsT_one (t := t) fun h => h1 h.1
    refine RunX ((And.intro (And.intro @eTm_eta @eTy_eta) (And.intro @h1 @hp))) ?_; repeat' (first | (with_reducible exact True.intro) | (with_reducible refine Lf.mk ?_ ?_) | (with_reducible intro hb))
    simp only [flat_one, eTm_eta t, slI]

theorem parts_le {t : Tm} (h : andT t) (u : Tm) (hu : u ∈ t.args) : (partsT u).length ≤ (partsT t).length := by
  have hl := h.2.2
  have hp := partsT_and h (by omega) (by omega)
  rw [hp, List.length_append]
  obtain ⟨i, hi, rfl⟩ := List.mem_iff_getElem.1 hu
  have : i = 0 ∨ i = 1 := by omega
  rcases this with rfl | rfl <;> omega
theorem conj_ok (t : Tm) (ht : okTm (2^20) t) (xs : List Tm) (hx : xs.length + (partsT t).length ≤ 2^20) : FnS Try.prog 180 [(1, .vec 80 8 xs.length (xs.flatMap eTm) false)] [agT (eTm t), .c (.os 1 xs.length)] [(1, .vec 80 8 (xs.length + (partsT t).length) (xs.flatMap eTm ++ (partsT t).flatMap eTm) false)] (.c (.os 1 (xs.length + (partsT t).length))) :=
  conj_of t ht xs hx fun u hu ys hy => conj_ok u ((okTm_iff.1 ht).2.2.2.2.2.2 u hu) ys hy
termination_by SizeOf.sizeOf t
decreasing_by exact Tm.mem hu
end Go.VC.T
/- Copies of types and terms. -/
namespace Go.VC.T
open Go Go.VC Go.Proofs Go.VC.F
set_option linter.unusedSimpArgs false
set_option linter.unusedVariables false
set_option linter.defProp false
set_option maxRecDepth 100000
set_option maxHeartbeats 2000000
def fc101A33 := (And.intro (And.intro (And.intro (And.intro sz3 (And.intro ag3 zv3)) (And.intro (And.intro un3 sz4) (And.intro ag4 zv4))) (And.intro (And.intro (And.intro un4 sz63) (And.intro ag63 zv63)) (And.intro (And.intro sb63 un63) (And.intro el63 ap63)))) (And.intro (And.intro (And.intro sz75 (And.intro ag75 zv75)) (And.intro (And.intro sb75 un75) (And.intro el75 ap75))) (And.intro (And.intro (And.intro sz77 ag77) (And.intro zv77 fl77_0)) (And.intro (And.intro fl77_1 fl77_2) (And.intro pl77 okf101)))))
theorem l3Copy_of (v : Ty) (hv : okTy (2^20) v) (H : ∀ u ∈ v.args, FnP Try.prog 101 [agT (eTy u)] (agT (eTy u))) : FnS Try.prog 101 [] [agT (eTy v)] [] (agT (eTy v)) := by
  refine FnS.go [0, 1, 2, 3, 4, 16] [1000] Try.func101 rfl (fun kt kz => ?_)
  have fcx := fc101A33
  simp only [Try.f101]
  have dx : Dx 8 7 3 := ⟨⟩
  have ho := okTy_iff.1 hv
  have hl1 := ho.2.1.1
  have hl := ho.2.2.1
  refine RunX (@eTy_eta) ?_; repeat' (first | (with_reducible exact True.intro) | (with_reducible refine Lf.mk ?_ ?_) | (with_reducible intro hb))
  refine Sm.nlB (6) 2 (1000) (77) 3 false (by rfl) (by rfl) (by rfl) (by decide) (by rfl) (by rfl) (by decide) (by rfl) ?_; simp only [upd, List.set_cons_zero, List.set_cons_succ, ↓reduceIte, Nat.reduceEqDiff]
  refine Trn (α := Nat) [4, 12, 13, 14, 15, 16, 17, 18, 19, 20, 21, 22, 23, 24, 25, 26, 27, 28, 29] (fun i => [(4, iT i)]) (fun i => [(2, .box 77 ((eTy v).map .im)), (4, .box 77 [.im (.sc (.int .i64 0)), .nl, .nl]), (6, .box 77 [.im (.sc (.int .i64 v.kind)), .im (.sl v.labels.length (v.labels.flatMap eS)), .os 1000 i]), (1000, .vec 77 3 i ((v.args.take i).flatMap eTy) false)]) (fun i => i ≤ v.args.length) (fun i => v.args.length - i) (0) (Nat.zero_le _) (@eTy_eta) ?_; intro lx hI; obtain i := lx; (try simp only [List.nil_append, List.cons_append] at hI ⊢)
  by_cases hlt : lx < v.args.length
  · have e1 : (v.args.take lx).flatMap eTy ++ eTy v.args[lx] = (v.args.take (lx + 1)).flatMap eTy := by rw [take_at hlt, List.flatMap_append, flat_one]
    rw [eTy_eta v.args[lx]] at e1
    simp only [slI] at e1
    refine Run ((And.intro @eTy_eta @hlt)) ?_; repeat' (first | (with_reducible exact True.intro) | (with_reducible refine Lf.mk ?_ ?_) | (with_reducible intro hb))
    refine CalI (@eTy_eta) (H _ (List.getElem_mem hlt)) ?_
    refine Run ((And.intro @eTy_eta @hlt)) ?_; repeat' (first | (with_reducible exact True.intro) | (with_reducible refine Lf.mk ?_ ?_) | (with_reducible intro hb))
    exact Nxt ((And.intro @eTy_eta @e1)) (lx + 1) (hlt) (by first | omega | (simp; omega))
  · obtain rfl : lx = v.args.length := by omega
    have e1 : (v.args.take v.args.length).flatMap eTy = v.args.flatMap eTy := by rw [List.take_length]
    refine Run ((And.intro @eTy_eta (And.intro @hlt @e1))) ?_; repeat' (first | (with_reducible exact True.intro) | (with_reducible refine Lf.mk ?_ ?_) | (with_reducible intro hb))

theorem l3Copy_ok (v : Ty) (hv : okTy (2^20) v) : FnP Try.prog 101 [agT (eTy v)] (agT (eTy v)) :=
  l3Copy_of v hv fun u hu => l3Copy_ok u ((okTy_iff.1 hv).2.2.2 u hu)
termination_by SizeOf.sizeOf v
decreasing_by exact Ty.mem hu
def fc177A33 := (And.intro (And.intro (And.intro (And.intro (And.intro sz3 ag3) (And.intro zv3 (And.intro un3 sz4))) (And.intro (And.intro ag4 (And.intro zv4 un4)) (And.intro sz9 (And.intro ag9 zv9)))) (And.intro (And.intro (And.intro un9 (And.intro sz63 ag63)) (And.intro zv63 (And.intro sb63 un63))) (And.intro (And.intro el63 (And.intro ap63 sz77)) (And.intro ag77 (And.intro zv77 fl77_0))))) (And.intro (And.intro (And.intro (And.intro fl77_1 fl77_2) (And.intro pl77 (And.intro sz78 ag78))) (And.intro (And.intro zv78 (And.intro sb78 un78)) (And.intro el78 (And.intro ap78 sz80)))) (And.intro (And.intro (And.intro ag80 (And.intro zv80 fl80_0)) (And.intro fl80_1 (And.intro fl80_2 fl80_3))) (And.intro (And.intro fl80_4 (And.intro fl80_5 pl80)) (And.intro okf101 (And.intro okf177 sz75))))))
theorem l7Copy_of (v : Tm) (hv : okTm (2^20) v) (H : ∀ u ∈ v.args, FnP Try.prog 177 [agT (eTm u)] (agT (eTm u))) : FnS Try.prog 177 [] [agT (eTm v)] [] (agT (eTm v)) := by
  refine FnS.go [0, 1, 2, 3, 4, 23] [1000] Try.func177 rfl (fun kt kz => ?_)
  have fcx := fc177A33
  simp only [Try.f177]
  have dx : Dx 15 14 3 := ⟨⟩
  have ho := okTm_iff.1 hv
  have hl1 := ho.2.2.2.2.1.1
  have hl := ho.2.2.2.2.2.1
  refine RunX ((And.intro @eTm_eta @eTy_eta)) ?_; repeat' (first | (with_reducible exact True.intro) | (with_reducible refine Lf.mk ?_ ?_) | (with_reducible intro hb))
  refine CalI ((And.intro @eTm_eta @eTy_eta)) (l3Copy_ok v.ty ho.2.2.2.1) ?_
  refine RunX ((And.intro @eTm_eta @eTy_eta)) ?_; repeat' (first | (with_reducible exact True.intro) | (with_reducible refine Lf.mk ?_ ?_) | (with_reducible intro hb))
  refine Sm.nlB (6) 7 (1000) (80) 8 false (by rfl) (by rfl) (by rfl) (by decide) (by rfl) (by rfl) (by decide) (by rfl) ?_; simp only [upd, List.set_cons_zero, List.set_cons_succ, ↓reduceIte, Nat.reduceEqDiff]
  refine Trn (α := Nat) [4, 19, 20, 21, 22, 23, 24, 25, 26, 27, 28, 29, 30, 31, 32, 33, 34, 35, 36] (fun i => [(4, iT i)]) (fun i => [(2, .box 80 ((eTm v).map .im)), (4, .box 80 [.im (.sc (.int .i64 0)), .im (.sc (.string ⟨#[]⟩)), .im (.sc (.int .i64 0)), .im (.sc (.int .i64 0)), .nl, .nl, .nl, .nl]), (6, .box 80 [.im (.sc (.int .i64 v.kind)), .im (.sc (.string v.name)), .im (.sc (.int .i64 v.n)), .im (.sc (.int .i64 v.ty.kind)), .im (.sl v.ty.labels.length (v.ty.labels.flatMap eS)), .im (.sl v.ty.args.length (v.ty.args.flatMap eTy)), .im (.sl v.labels.length (v.labels.flatMap eS)), .os 1000 i]), (1000, .vec 80 8 i ((v.args.take i).flatMap eTm) false)]) (fun i => i ≤ v.args.length) (fun i => v.args.length - i) (0) (Nat.zero_le _) ((And.intro @eTm_eta @eTy_eta)) ?_; intro lx hI; obtain i := lx; (try simp only [List.nil_append, List.cons_append] at hI ⊢)
  by_cases hlt : lx < v.args.length
  · have e1 : (v.args.take lx).flatMap eTm ++ eTm v.args[lx] = (v.args.take (lx + 1)).flatMap eTm := by rw [take_at hlt, List.flatMap_append, flat_one]
    rw [eTm_eta v.args[lx]] at e1
    simp only [slI] at e1
    refine Run ((And.intro @eTm_eta (And.intro @eTy_eta @hlt))) ?_; repeat' (first | (with_reducible exact True.intro) | (with_reducible refine Lf.mk ?_ ?_) | (with_reducible intro hb))
    refine CalI ((And.intro @eTm_eta @eTy_eta)) (H _ (List.getElem_mem hlt)) ?_
    refine Run ((And.intro @eTm_eta (And.intro @eTy_eta @hlt))) ?_; repeat' (first | (with_reducible exact True.intro) | (with_reducible refine Lf.mk ?_ ?_) | (with_reducible intro hb))
    exact Nxt ((And.intro @eTm_eta (And.intro @eTy_eta @e1))) (lx + 1) (hlt) (by first | omega | (simp; omega))
  · obtain rfl : lx = v.args.length := by omega
    have e1 : (v.args.take v.args.length).flatMap eTm = v.args.flatMap eTm := by rw [List.take_length]
    refine Run ((And.intro (And.intro @eTm_eta @eTy_eta) (And.intro @hlt @e1))) ?_; repeat' (first | (with_reducible exact True.intro) | (with_reducible refine Lf.mk ?_ ?_) | (with_reducible intro hb))

theorem l7Copy_ok (v : Tm) (hv : okTm (2^20) v) : FnP Try.prog 177 [agT (eTm v)] (agT (eTm v)) :=
  l7Copy_of v hv fun u hu => l7Copy_ok u ((okTm_iff.1 hv).2.2.2.2.2.2 u hu)
termination_by SizeOf.sizeOf v
decreasing_by exact Tm.mem hu
end Go.VC.T
/- Conjuncts, as the other side tells them. -/
namespace Go.VC.T
open Go Go.VC Go.Proofs Go.VC.F
set_option linter.unusedSimpArgs false
set_option linter.unusedVariables false
set_option linter.defProp false
set_option maxRecDepth 100000
set_option maxHeartbeats 2000000
def fc141A34 := (And.intro (And.intro (And.intro (And.intro (And.intro sz3 ag3) (And.intro zv3 un3)) (And.intro (And.intro sz4 ag4) (And.intro zv4 un4))) (And.intro (And.intro (And.intro sz9 ag9) (And.intro zv9 un9)) (And.intro (And.intro sz78 ag78) (And.intro zv78 sb78)))) (And.intro (And.intro (And.intro (And.intro un78 el78) (And.intro ap78 sz80)) (And.intro (And.intro ag80 zv80) (And.intro fl80_0 fl80_1))) (And.intro (And.intro (And.intro fl80_2 fl80_3) (And.intro fl80_4 fl80_5)) (And.intro (And.intro pl80 okf141) (And.intro okf177 (And.intro sz77 sz63))))))
theorem l17_and (t : Tm) (ht : okTm (2^20) t) (hp : (partsT t).length ≤ 2^20) (h : andT t) (H : ∀ u ∈ t.args, ∀ q : Nat, FnS Try.prog 141 [] [agT (eTm u)] [(q, .vec 80 8 (partsT u).length ((partsT u).flatMap eTm) false)] (.c (.os q (partsT u).length))) : FnS Try.prog 141 [] [agT (eTm t)] [(2000, .vec 80 8 (partsT t).length ((partsT t).flatMap eTm) false)] (.c (.os 2000 (partsT t).length)) := by
  refine FnS.go [0, 1, 2, 16] [] Try.func141 rfl (fun kt kz => ?_)
  have fcx := fc141A34
  simp only [Try.f141]
  have dq : Dq [0, 1, 2, 3, 5, 6, 7, 8] [4, 9, 10, 11] 6 [[5, 6, 7, 8], [], [], []] := ⟨⟩
  have ho := okTm_iff.1 ht
  have hl := ho.2.2.2.2.2.1
  obtain ⟨h1, h2, h3⟩ := h
  have h30 : 0 < t.args.length := by omega
  have h31 : 1 < t.args.length := by omega
  have hpp := partsT_and ⟨h1, h2, h3⟩ h30 h31
  have h3' : (t.args.length : Int) = 2 := by omega
  have hn : (partsT t).length = (partsT t.args[0]).length + (partsT t.args[1]).length := by rw [hpp, List.length_append]
  have H0 := H _ (List.getElem_mem h30) 2000
  have H1 := H _ (List.getElem_mem h31) 2002
  refine RunX ((And.intro (And.intro @eTm_eta (And.intro @eTy_eta @h1)) (And.intro (And.intro @h2 @h3') (And.intro @h30 @h31)))) ?_; repeat' (first | (with_reducible exact True.intro) | (with_reducible refine Lf.mk ?_ ?_) | (with_reducible intro hb))
  refine CalI ((And.intro @eTm_eta @eTy_eta)) (H0) ?_
  refine RunX ((And.intro (And.intro @eTm_eta @eTy_eta) (And.intro @h30 @h31))) ?_; repeat' (first | (with_reducible exact True.intro) | (with_reducible refine Lf.mk ?_ ?_) | (with_reducible intro hb))
  refine CalI ((And.intro @eTm_eta @eTy_eta)) (H1) ?_
  have hl0 : (partsT t.args[0]).length + (partsT t.args[1]).length ≤ 1048576 := by omega
  have hf1 : ((partsT t.args[1]).flatMap eTm).length = (partsT t.args[1]).length * 8 := flat_len'
  refine RunX ((And.intro (And.intro @eTm_eta @eTy_eta) (And.intro @h30 (And.intro @h31 @hf1)))) ?_; repeat' (first | (with_reducible exact True.intro) | (with_reducible refine Lf.mk ?_ ?_) | (with_reducible intro hb))
  all_goals simp only [hpp, List.length_append, List.flatMap_append]
theorem l17_one (t : Tm) (ht : okTm (2^20) t) (h : ¬ andT t) : FnS Try.prog 141 [] [agT (eTm t)] [(60, .vec 80 8 1 (eTm t) false)] (.c (.os 60 1)) := by
  refine FnS.go [0, 1, 2, 16] [] Try.func141 rfl (fun kt kz => ?_)
  have fcx := fc141A34
  simp only [Try.f141]
  have ho := okTm_iff.1 ht
  have hl := ho.2.2.2.2.2.1
  have H := l7Copy_ok t ht
  by_cases h1 : t.kind = 4
  · by_cases h2 : t.name = ⟨#[38]⟩
    · have h3' : ¬ (t.args.length : Int) = 2 := fun e => h ⟨h1, h2, by omega⟩
      refine Run ((And.intro (And.intro @eTm_eta @eTy_eta) (And.intro @h1 (And.intro @h2 @h3')))) ?_; repeat' (first | (with_reducible exact True.intro) | (with_reducible refine Lf.mk ?_ ?_) | (with_reducible intro hb))
      refine CalI ((And.intro (And.intro @eTm_eta @eTy_eta) (And.intro @h1 @h2))) (H) ?_
      refine Run ((And.intro (And.intro @eTm_eta @eTy_eta) (And.intro @h1 @h2))) ?_; repeat' (first | (with_reducible exact True.intro) | (with_reducible refine Lf.mk ?_ ?_) | (with_reducible intro hb))
    · refine Run ((And.intro (And.intro @eTm_eta @eTy_eta) (And.intro @h1 @h2))) ?_; repeat' (first | (with_reducible exact True.intro) | (with_reducible refine Lf.mk ?_ ?_) | (with_reducible intro hb))
      refine CalI ((And.intro @eTm_eta (And.intro @eTy_eta @h1))) (H) ?_
      refine Run ((And.intro @eTm_eta (And.intro @eTy_eta @h1))) ?_; repeat' (first | (with_reducible exact True.intro) | (with_reducible refine Lf.mk ?_ ?_) | (with_reducible intro hb))
  · refine Run ((And.intro @eTm_eta (And.intro @eTy_eta @h1))) ?_; repeat' (first | (with_reducible exact True.intro) | (with_reducible refine Lf.mk ?_ ?_) | (with_reducible intro hb))
    refine CalI ((And.intro @eTm_eta @eTy_eta)) (H) ?_
    refine Run ((And.intro @eTm_eta @eTy_eta)) ?_; repeat' (first | (with_reducible exact True.intro) | (with_reducible refine Lf.mk ?_ ?_) | (with_reducible intro hb))

theorem l17_ok (t : Tm) (ht : okTm (2^20) t) (hp : (partsT t).length ≤ 2^20) (q : Nat) : FnS Try.prog 141 [] [agT (eTm t)] [(q, .vec 80 8 (partsT t).length ((partsT t).flatMap eTm) false)] (.c (.os q (partsT t).length)) := by
  by_cases h : andT t
  · obtain ⟨p, hpq⟩ := pm1 2000 q
    have H := l17_and t ht hp h fun u hu q => l17_ok u ((okTm_iff.1 ht).2.2.2.2.2.2 u hu) (Nat.le_trans (parts_le h u hu) hp) q
    refine (H.pm p).as ?_ ?_ <;> simp [renS, Ob.ren, TV.ren, Cell.ren, hpq]
  · rw [partsT_one h]
    obtain ⟨p, hpq⟩ := pm1 60 q
    refine ((l17_one t ht h).pm p).as ?_ ?_ <;> simp [renS, Ob.ren, TV.ren, Cell.ren, hpq]
termination_by SizeOf.sizeOf t
decreasing_by exact Tm.mem hu
end Go.VC.T
/- Small functions of plans and conditions. -/
namespace Go.VC
/-- Is it the true condition? -/
def trueT (t : Tm) : Prop := t.kind = 3 ∧ t.n = 1
instance (t : Tm) : Decidable (trueT t) := inferInstanceAs (Decidable (_ ∧ _))
def condsT (t : Tm) : List Tm := if trueT t then [] else partsT t
/-- How many parts a plan of a kind has. -/
def arityP (k : Int) : Int := if k = 1 then 0 else if k = 2 then 0 else if k = 3 then 2 else if k = 5 then 2 else if k = 4 then 1 else -1
end Go.VC
namespace Go.VC.T
open Go Go.VC Go.Proofs Go.VC.F
set_option linter.unusedSimpArgs false
set_option linter.unusedVariables false
set_option linter.defProp false
set_option maxRecDepth 100000
set_option maxHeartbeats 2000000
def fc179A35 := (And.intro (And.intro (And.intro (And.intro sz3 ag3) (And.intro zv3 (And.intro un3 sz4))) (And.intro (And.intro ag4 (And.intro zv4 un4)) (And.intro sz80 (And.intro ag80 zv80)))) (And.intro (And.intro (And.intro fl80_0 fl80_1) (And.intro fl80_2 (And.intro fl80_3 fl80_4))) (And.intro (And.intro fl80_5 (And.intro pl80 sz9)) (And.intro sz77 (And.intro sz63 sz78)))))
theorem isTrue_ok (t : Tm) : FnS Try.prog 179 [] [agT (eTm t)] [] (bT (decide (trueT t))) := by
  refine FnS.go [0, 1, 2] [] Try.func179 rfl (fun kt kz => ?_)
  have fcx := fc179A35
  simp only [Try.f179]
  by_cases h1 : t.kind = 3
  · by_cases h2 : t.n = 1
    · refine Run ((And.intro (And.intro @eTm_eta @eTy_eta) (And.intro @h1 @h2))) ?_; repeat' (first | (with_reducible exact True.intro) | (with_reducible refine Lf.mk ?_ ?_) | (with_reducible intro hb))
      simp [trueT, h1, h2]
    · refine Run ((And.intro (And.intro @eTm_eta @eTy_eta) (And.intro @h1 @h2))) ?_; repeat' (first | (with_reducible exact True.intro) | (with_reducible refine Lf.mk ?_ ?_) | (with_reducible intro hb))
      simp [trueT, h1, h2]
  · refine Run ((And.intro @eTm_eta (And.intro @eTy_eta @h1))) ?_; repeat' (first | (with_reducible exact True.intro) | (with_reducible refine Lf.mk ?_ ?_) | (with_reducible intro hb))
    simp [trueT, h1]
def fc140A35 := (And.intro (And.intro (And.intro (And.intro sz3 ag3) (And.intro zv3 (And.intro un3 sz4))) (And.intro (And.intro ag4 (And.intro zv4 un4)) (And.intro sz80 (And.intro ag80 zv80)))) (And.intro (And.intro (And.intro fl80_0 fl80_1) (And.intro fl80_2 (And.intro fl80_3 fl80_4))) (And.intro (And.intro fl80_5 (And.intro pl80 sz9)) (And.intro sz77 (And.intro sz63 sz78)))))
theorem l14Is_ok (t : Tm) : FnS Try.prog 140 [] [agT (eTm t), iT 1] [] (bT (decide (trueT t))) := by
  refine FnS.go [0, 1, 2, 4] [] Try.func140 rfl (fun kt kz => ?_)
  have fcx := fc140A35
  simp only [Try.f140]
  by_cases h1 : t.kind = 3
  · by_cases h2 : t.n = 1
    · refine Run ((And.intro (And.intro @eTm_eta @eTy_eta) (And.intro @h1 @h2))) ?_; repeat' (first | (with_reducible exact True.intro) | (with_reducible refine Lf.mk ?_ ?_) | (with_reducible intro hb))
      simp [trueT, h1, h2]
    · refine Run ((And.intro (And.intro @eTm_eta @eTy_eta) (And.intro @h1 @h2))) ?_; repeat' (first | (with_reducible exact True.intro) | (with_reducible refine Lf.mk ?_ ?_) | (with_reducible intro hb))
      simp [trueT, h1, h2]
  · refine Run ((And.intro @eTm_eta (And.intro @eTy_eta @h1))) ?_; repeat' (first | (with_reducible exact True.intro) | (with_reducible refine Lf.mk ?_ ?_) | (with_reducible intro hb))
    simp [trueT, h1]
def fc87A35 := (And.intro (And.intro (And.intro sz3 ag3) (And.intro zv3 un3)) (And.intro (And.intro sz4 ag4) (And.intro zv4 un4)))
theorem l25Arity_ok (k : Int) : FnS Try.prog 87 [] [iT k] [] (iT (arityP k)) := by
  refine FnS.go [0, 2, 3, 4, 7, 10] [] Try.func87 rfl (fun kt kz => ?_)
  have fcx := fc87A35
  simp only [Try.f87]
  by_cases h1 : k = 1
  · refine Run (@h1) ?_; repeat' (first | (with_reducible exact True.intro) | (with_reducible refine Lf.mk ?_ ?_) | (with_reducible intro hb))
    simp [arityP, h1]
  · by_cases h2 : k = 2
    · refine Run ((And.intro @h1 @h2)) ?_; repeat' (first | (with_reducible exact True.intro) | (with_reducible refine Lf.mk ?_ ?_) | (with_reducible intro hb))
      simp [arityP, h1, h2]
    · by_cases h3 : k = 3
      · refine Run ((And.intro @h1 (And.intro @h2 @h3))) ?_; repeat' (first | (with_reducible exact True.intro) | (with_reducible refine Lf.mk ?_ ?_) | (with_reducible intro hb))
        simp [arityP, h3]
      · by_cases h5 : k = 5
        · refine Run ((And.intro (And.intro @h1 @h2) (And.intro @h3 @h5))) ?_; repeat' (first | (with_reducible exact True.intro) | (with_reducible refine Lf.mk ?_ ?_) | (with_reducible intro hb))
          simp [arityP, h5]
        · by_cases h4 : k = 4
          · refine Run ((And.intro (And.intro @h1 @h2) (And.intro @h3 (And.intro @h5 @h4)))) ?_; repeat' (first | (with_reducible exact True.intro) | (with_reducible refine Lf.mk ?_ ?_) | (with_reducible intro hb))
            simp [arityP, h4]
          · refine Run ((And.intro (And.intro @h1 @h2) (And.intro @h3 (And.intro @h5 @h4)))) ?_; repeat' (first | (with_reducible exact True.intro) | (with_reducible refine Lf.mk ?_ ?_) | (with_reducible intro hb))
            simp [arityP, h1, h2, h3, h4, h5]
def fc89A35 := (And.intro (And.intro (And.intro (And.intro sz3 (And.intro ag3 zv3)) (And.intro (And.intro un3 sz4) (And.intro ag4 zv4))) (And.intro (And.intro (And.intro un4 sz78) (And.intro ag78 zv78)) (And.intro (And.intro sb78 un78) (And.intro el78 ap78)))) (And.intro (And.intro (And.intro sz80 (And.intro ag80 zv80)) (And.intro (And.intro fl80_0 fl80_1) (And.intro fl80_2 fl80_3))) (And.intro (And.intro (And.intro fl80_4 fl80_5) (And.intro pl80 okf140)) (And.intro (And.intro okf141 sz9) (And.intro sz77 sz63)))))
theorem conjOf_ok (t : Tm) (ht : okTm (2^20) t) (hp : (partsT t).length ≤ 2^20) : FnS Try.prog 89 [] [agT (eTm t)] [] (slT eTm (condsT t)) := by
  refine FnS.go [0, 1, 2, 4] [10, 2000] Try.func89 rfl (fun kt kz => ?_)
  have fcx := fc89A35
  simp only [Try.f89]
  refine Run ((And.intro @eTm_eta @eTy_eta)) ?_; repeat' (first | (with_reducible exact True.intro) | (with_reducible refine Lf.mk ?_ ?_) | (with_reducible intro hb))
  refine Cal ((And.intro @eTm_eta @eTy_eta)) (l14Is_ok t) ?_
  by_cases h : trueT t
  · have e : condsT t = [] := if_pos h
    refine Run ((And.intro @eTm_eta (And.intro @eTy_eta (decide_eq_true h)))) ?_; repeat' (first | (with_reducible exact True.intro) | (with_reducible refine Lf.mk ?_ ?_) | (with_reducible intro hb))
    simp [e, slT, slI]
  · have e : condsT t = partsT t := if_neg h
    refine Run ((And.intro @eTm_eta (And.intro @eTy_eta (decide_eq_false h)))) ?_; repeat' (first | (with_reducible exact True.intro) | (with_reducible refine Lf.mk ?_ ?_) | (with_reducible intro hb))
    refine CalI ((And.intro @eTm_eta @eTy_eta)) (l17_ok t ht hp 2000) ?_
    refine Run ((And.intro @eTm_eta @eTy_eta)) ?_; repeat' (first | (with_reducible exact True.intro) | (with_reducible refine Lf.mk ?_ ?_) | (with_reducible intro hb))
    rw [e]
def fc145A35 := (And.intro (And.intro (And.intro (And.intro sz4 (And.intro ag4 zv4)) (And.intro un4 (And.intro sz78 ag78))) (And.intro (And.intro zv78 (And.intro sb78 un78)) (And.intro (And.intro el78 ap78) (And.intro sz80 ag80)))) (And.intro (And.intro (And.intro zv80 (And.intro fl80_0 fl80_1)) (And.intro (And.intro fl80_2 fl80_3) (And.intro fl80_4 fl80_5))) (And.intro (And.intro pl80 (And.intro okf179 okf180)) (And.intro (And.intro sz3 sz9) (And.intro sz77 sz63)))))
theorem partsOf_a (t : Tm) (h : trueT t) : FnS Try.prog 145 [] [agT (eTm t)] [] (.c .nl) := by
  refine FnS.go [0, 1, 2, 4] [] Try.func145 rfl (fun kt kz => ?_)
  have fcx := fc145A35
  simp only [Try.f145]
  refine Run ((And.intro @eTm_eta @eTy_eta)) ?_; repeat' (first | (with_reducible exact True.intro) | (with_reducible refine Lf.mk ?_ ?_) | (with_reducible intro hb))
  refine Cal ((And.intro @eTm_eta @eTy_eta)) (isTrue_ok t) ?_
  refine Run ((And.intro @eTm_eta (And.intro @eTy_eta (decide_eq_true h)))) ?_; repeat' (first | (with_reducible exact True.intro) | (with_reducible refine Lf.mk ?_ ?_) | (with_reducible intro hb))
theorem partsOf_b (t : Tm) (ht : okTm (2^20) t) (hp : (partsT t).length ≤ 2^20) (h : ¬ trueT t) : FnS Try.prog 145 [] [agT (eTm t)] [(2000, .vec 80 8 (partsT t).length ((partsT t).flatMap eTm) false)] (.c (.os 2000 (partsT t).length)) := by
  refine FnS.go [0, 1, 2, 4] [] Try.func145 rfl (fun kt kz => ?_)
  have fcx := fc145A35
  simp only [Try.f145]
  have H := conj_ok t ht [] (by simpa using hp)
  simp only [List.length_nil, List.flatMap_nil, Nat.zero_add, List.nil_append] at H
  obtain ⟨p, hpq⟩ := pm1 1 2000
  have H2 := (H.renA p).asA (σ0' := [(2000, .vec 80 8 0 [] false)]) (ys' := [agT (eTm t), .c (.os 2000 0)]) (σ1' := [(2000, .vec 80 8 (partsT t).length ((partsT t).flatMap eTm) false)]) (r' := .c (.os 2000 (partsT t).length)) (by simp [renS, Ob.ren, hpq]) (by simp [TV.ren, Cell.ren, agT, hpq, eTm_eta, eTy_eta, slI, renL]) (by simp [renS, Ob.ren, hpq]) (by simp [TV.ren, Cell.ren, hpq])
  refine Run ((And.intro @eTm_eta @eTy_eta)) ?_; repeat' (first | (with_reducible exact True.intro) | (with_reducible refine Lf.mk ?_ ?_) | (with_reducible intro hb))
  refine Cal ((And.intro @eTm_eta @eTy_eta)) (isTrue_ok t) ?_
  refine Run ((And.intro @eTm_eta (And.intro @eTy_eta (decide_eq_false h)))) ?_; repeat' (first | (with_reducible exact True.intro) | (with_reducible refine Lf.mk ?_ ?_) | (with_reducible intro hb))
  refine CallG.nlA 1 2000 80 8 false (by rfl) (by decide) (by decide) (by rfl) (by rfl) (by rfl) ?_
  simp only [List.set_cons_succ, List.set_cons_zero, List.append_nil, List.cons_append, List.nil_append]
  refine CalO ((And.intro @eTm_eta @eTy_eta)) (H2) ?_
  refine Run ((And.intro @eTm_eta @eTy_eta)) ?_; repeat' (first | (with_reducible exact True.intro) | (with_reducible refine Lf.mk ?_ ?_) | (with_reducible intro hb))

end Go.VC.T
/- Numbers of rows. -/
namespace Go.VC
def keysP (k : Int) : Int := if k = 1 then 0 else if k = 2 then 0 else if k = 3 then 0 else if k = 4 then 0 else if k = 5 then 2 else -1
def partN (n b : Int) : Int := IntKind.i64.wrap ((IntKind.i64.wrap (n + (b - 1))).tdiv b)
end Go.VC
namespace Go.VC.T
open Go Go.VC Go.Proofs Go.VC.F
set_option linter.unusedSimpArgs false
set_option linter.unusedVariables false
set_option linter.defProp false
set_option maxRecDepth 100000
set_option maxHeartbeats 2000000
def fc144A36 := (And.intro (And.intro (And.intro sz3 ag3) (And.intro zv3 un3)) (And.intro (And.intro sz4 ag4) (And.intro zv4 un4)))
theorem planArgs_ok (k : Int) : FnS Try.prog 144 [] [iT k] [] (.tp [iT (arityP k), iT (keysP k)]) := by
  refine FnS.go [0, 2, 3, 4, 5, 8, 10, 12] [] Try.func144 rfl (fun kt kz => ?_)
  have fcx := fc144A36
  simp only [Try.f144]
  by_cases h1 : k = 1
  · refine Run (@h1) ?_; repeat' (first | (with_reducible exact True.intro) | (with_reducible refine Lf.mk ?_ ?_) | (with_reducible intro hb))
    simp [arityP, keysP, h1]
  · by_cases h2 : k = 2
    · refine Run ((And.intro @h1 @h2)) ?_; repeat' (first | (with_reducible exact True.intro) | (with_reducible refine Lf.mk ?_ ?_) | (with_reducible intro hb))
      simp [arityP, keysP, h1, h2]
    · by_cases h3 : k = 3
      · refine Run ((And.intro @h1 (And.intro @h2 @h3))) ?_; repeat' (first | (with_reducible exact True.intro) | (with_reducible refine Lf.mk ?_ ?_) | (with_reducible intro hb))
        simp [arityP, keysP, h3]
      · by_cases h4 : k = 4
        · refine Run ((And.intro (And.intro @h1 @h2) (And.intro @h3 @h4))) ?_; repeat' (first | (with_reducible exact True.intro) | (with_reducible refine Lf.mk ?_ ?_) | (with_reducible intro hb))
          simp [arityP, keysP, h4]
        · by_cases h5 : k = 5
          · refine Run ((And.intro (And.intro @h1 @h2) (And.intro @h3 (And.intro @h5 @h4)))) ?_; repeat' (first | (with_reducible exact True.intro) | (with_reducible refine Lf.mk ?_ ?_) | (with_reducible intro hb))
            simp [arityP, keysP, h5]
          · refine Run ((And.intro (And.intro @h1 @h2) (And.intro @h3 (And.intro @h5 @h4)))) ?_; repeat' (first | (with_reducible exact True.intro) | (with_reducible refine Lf.mk ?_ ?_) | (with_reducible intro hb))
            simp [arityP, keysP, h1, h2, h3, h4, h5]
theorem wrap_less (n : Int) (b : Int) : IntKind.i64.wrap (IntKind.i64.wrap (n + b) - 1) = IntKind.i64.wrap (n + (b - 1)) := by
  simp only [IntKind.wrap, IntKind.bits, IntKind.signed]
  simp
  omega
def fc88A36 := (And.intro (And.intro sz3 ag3) (And.intro zv3 un3))
theorem l28Part2_ok (n : Int) : FnS Try.prog 88 [] [iT n, iT 2] [] (iT (partN n 2)) := by
  refine FnS.go [0, 1, 4] [] Try.func88 rfl (fun kt kz => ?_)
  have fcx := fc88A36
  simp only [Try.f88]
  refine Run (cast_succ) ?_; repeat' (first | (with_reducible exact True.intro) | (with_reducible refine Lf.mk ?_ ?_) | (with_reducible intro hb))
  rw [wrap_less]; rfl
theorem l28Part3_ok (n : Int) : FnS Try.prog 88 [] [iT n, iT 3] [] (iT (partN n 3)) := by
  refine FnS.go [0, 1, 4] [] Try.func88 rfl (fun kt kz => ?_)
  have fcx := fc88A36
  simp only [Try.f88]
  refine Run (cast_succ) ?_; repeat' (first | (with_reducible exact True.intro) | (with_reducible refine Lf.mk ?_ ?_) | (with_reducible intro hb))
  rw [wrap_less]; rfl

end Go.VC.T
/- Rows of a table, copied. -/
namespace Go.VC
open Go
theorem idx_some {α : Type} {p : α → Bool} {l : List α} (h : l.any p = true) : ∃ i, ∃ hi : i < l.length, (l.take i).any p = false ∧ p l[i] = true := by
  obtain ⟨x, hx, hp⟩ := List.any_eq_true.1 h
  have hlt := List.findIdx_lt_length_of_exists ⟨x, hx, hp⟩
  refine ⟨l.findIdx p, hlt, ?_, List.findIdx_getElem⟩
  rw [List.any_eq_false]
  intro y hy
  obtain ⟨j, hj, rfl⟩ := List.mem_iff_getElem.1 hy
  rw [List.length_take] at hj
  rw [List.getElem_take]
  simp [List.not_of_lt_findIdx (Nat.lt_of_lt_of_le hj (Nat.min_le_left _ _))]
end Go.VC
namespace Go.VC.T
open Go Go.VC Go.Proofs Go.VC.F
set_option linter.unusedSimpArgs false
set_option linter.unusedVariables false
set_option linter.defProp false
set_option maxRecDepth 100000
set_option maxHeartbeats 2000000
def fc115A37 := (And.intro (And.intro (And.intro (And.intro sz3 (And.intro ag3 zv3)) (And.intro un3 (And.intro sz4 ag4))) (And.intro (And.intro zv4 (And.intro un4 sz103)) (And.intro ag103 (And.intro zv103 sb103)))) (And.intro (And.intro (And.intro un103 (And.intro el103 ap103)) (And.intro sz107 (And.intro ag107 zv107))) (And.intro (And.intro fl107_0 (And.intro fl107_1 fl107_2)) (And.intro (And.intro fl107_3 pl107) (And.intro okf164 sz63)))))
theorem l9Values_ok (xs : List Val) (hx : okLs (2^20) okVal xs) : FnS Try.prog 115 [] [slT eVal xs] [] (slT eVal xs) := by
  refine FnS.go [0, 2, 3, 4, 9] [10] Try.func115 rfl (fun kt kz => ?_)
  have fcx := fc115A37
  simp only [Try.f115]
  have hl := hx.1
  refine Run (@eVal_eta) ?_; repeat' (first | (with_reducible exact True.intro) | (with_reducible refine Lf.mk ?_ ?_) | (with_reducible intro hb))
  refine Sm.share (10) (by simp -dsimp (maxSteps := 2000000) (disch := omega) only [vs, ↓Option.bind_some, ev1, ofV, scalarB, Kn, Kb, calleeOf, evLoad, ptr, evField, evFieldAddr, shift, ↓pt_at, ↓pt_at1, evExtract, evBin, evLen, evConv, cellsT, noS, Cell.has, Cell.hasN, Cell.anyN, toIV, toIV0, toIVs, ownC, srcM, Ob.own, Ob.esz, allSc, nilK, lenC, ownCell, isPtr, ptrNil, frzO, Cell.frz, Cell.keys, ↓reduceIte, reduceCtorEq, Nat.reduceEqDiff, Nat.reduceBEq, Nat.reduceBNe, Nat.reduceAdd, Nat.reduceMul, Nat.reduceSub, Nat.reduceLT, Nat.reduceLeDiff, Nat.reducePow, Int.reduceLT, Int.reduceLE, Int.reduceEq, Int.reduceNe, quietB, Nat.reduceMod, Int.reduceToNat, ne_eq, eq_self, exists_const, evBytes, byRow, byL, byStr_size, ifsz, ByteArray.size_append, Option.none_or, Option.some_or, evLook, keyD, fc115A37]) ?_; simp -dsimp (maxSteps := 2000000) (disch := omega) only [vs, ↓Option.bind_some, ev1, ofV, scalarB, Kn, Kb, calleeOf, evLoad, ptr, evField, evFieldAddr, shift, ↓pt_at, ↓pt_at1, evExtract, evBin, evLen, evConv, cellsT, noS, Cell.has, Cell.hasN, Cell.anyN, toIV, toIV0, toIVs, ownC, srcM, Ob.own, Ob.esz, allSc, nilK, lenC, ownCell, isPtr, ptrNil, frzO, Cell.frz, Cell.keys, ↓reduceIte, reduceCtorEq, Nat.reduceEqDiff, Nat.reduceBEq, Nat.reduceBNe, Nat.reduceAdd, Nat.reduceMul, Nat.reduceSub, Nat.reduceLT, Nat.reduceLeDiff, Nat.reducePow, Int.reduceLT, Int.reduceLE, Int.reduceEq, Int.reduceNe, quietB, Nat.reduceMod, Int.reduceToNat, ne_eq, eq_self, exists_const, evBytes, byRow, byL, byStr_size, ifsz, ByteArray.size_append, Option.none_or, Option.some_or, evLook, keyD, fc115A37, St.share]
  refine Trn (α := Nat) [3, 4, 6, 7, 8, 9, 10, 11, 12, 13, 14, 15, 16, 17, 18, 19] (fun i => [(4, iT i), (3, .c (.os 10 i))]) (fun i => [(10, .vec 107 4 i ((xs.take i).flatMap eVal) false)]) (fun i => i ≤ xs.length) (fun i => xs.length - i) (0) (Nat.zero_le _) (@eVal_eta) ?_; intro lx hI; obtain i := lx; (try simp only [List.nil_append, List.cons_append] at hI ⊢)
  by_cases hlt : lx < xs.length
  · have e1 : (xs.take lx).flatMap eVal ++ eVal xs[lx] = (xs.take (lx + 1)).flatMap eVal := by rw [take_at hlt, List.flatMap_append, flat_one]
    rw [eVal_eta xs[lx]] at e1
    simp only [slI] at e1
    refine Run ((And.intro @eVal_eta @hlt)) ?_; repeat' (first | (with_reducible exact True.intro) | (with_reducible refine Lf.mk ?_ ?_) | (with_reducible intro hb))
    refine CalI (@eVal_eta) (l5Copy_ok _ (hx.2 _ (List.getElem_mem hlt))) ?_
    refine Run ((And.intro @eVal_eta @hlt)) ?_; repeat' (first | (with_reducible exact True.intro) | (with_reducible refine Lf.mk ?_ ?_) | (with_reducible intro hb))
    exact Nxt ((And.intro @eVal_eta @e1)) (lx + 1) (hlt) (by first | omega | (simp; omega))
  · obtain rfl : lx = xs.length := by omega
    have e1 : (xs.take xs.length).flatMap eVal = xs.flatMap eVal := by rw [List.take_length]
    refine Run ((And.intro @eVal_eta (And.intro @hlt @e1))) ?_; repeat' (first | (with_reducible exact True.intro) | (with_reducible refine Lf.mk ?_ ?_) | (with_reducible intro hb))
def fc59A37 := (And.intro (And.intro (And.intro (And.intro (And.intro sz3 ag3) (And.intro zv3 un3)) (And.intro (And.intro sz4 ag4) (And.intro zv4 (And.intro un4 sz9)))) (And.intro (And.intro (And.intro ag9 zv9) (And.intro un9 (And.intro sz35 ag35))) (And.intro (And.intro zv35 sb35) (And.intro un35 (And.intro el35 ap35))))) (And.intro (And.intro (And.intro (And.intro sz37 ag37) (And.intro zv37 (And.intro fl37_0 pl37))) (And.intro (And.intro sz103 ag103) (And.intro zv103 (And.intro sb103 un103)))) (And.intro (And.intro (And.intro el103 ap103) (And.intro sz156 (And.intro ag156 zv156))) (And.intro (And.intro fl156_0 fl156_1) (And.intro pl156 (And.intro okf114 okf115))))))
theorem rowsOfS_ok (db : List TData) (s : ByteArray) (hd : okDbs (2^20) db) : FnS Try.prog 59 [] [agT (eDbs db), sT s] [] (slT eVal (rowsD db s)) := by
  refine FnS.go [0, 1, 2, 4, 5, 10] [22] Try.func59 rfl (fun kt kz => ?_)
  have fcx := fc59A37
  simp only [Try.f59]
  have ho := okDbs_iff.1 hd
  have hl := ho.1
  have hi := idx_ge (p := fun t : TData => decide (t.name = s)) (l := db)
  have hj := idx_le (p := fun t : TData => decide (t.name = s)) (l := db)
  refine Run (@eDbs_eta) ?_; repeat' (first | (with_reducible exact True.intro) | (with_reducible refine Lf.mk ?_ ?_) | (with_reducible intro hb))
  refine CalI (@eDbs_eta) (l9Table_ok db s hd) ?_
  cases ha : db.any (fun t => decide (t.name = s)) with
  | false =>
    rw [idx_no ha, rowsD_no ha]
    refine Run (@eDbs_eta) ?_; repeat' (first | (with_reducible exact True.intro) | (with_reducible refine Lf.mk ?_ ?_) | (with_reducible intro hb))
    rfl
  | true =>
    obtain ⟨i, hil, h1, h2⟩ := idx_some ha
    have h3 : db[i].name = s := by simpa using h2
    rw [idx_at (p := fun t : TData => decide (t.name = s)) hil h1 h2, rowsD_at hil h1 h3]
    have h4 : ¬ ((i : Int) < 0) := by omega
    refine Run ((And.intro (And.intro @eDbs_eta @eTData_eta) (And.intro @h4 @hil))) ?_; repeat' (first | (with_reducible exact True.intro) | (with_reducible refine Lf.mk ?_ ?_) | (with_reducible intro hb))
    refine CalI ((And.intro @eDbs_eta @eTData_eta)) (l9Values_ok db[i].rows (okTData_iff.1 (ho.2 _ (List.getElem_mem hil))).2) ?_
    refine Run ((And.intro @eDbs_eta @eTData_eta)) ?_; repeat' (first | (with_reducible exact True.intro) | (with_reducible refine Lf.mk ?_ ?_) | (with_reducible intro hb))

end Go.VC.T
/- A plan's number of rows, and its cost: no program in sight. -/
set_option linter.unusedSimpArgs false
set_option linter.unusedVariables false
namespace Go.VC
open Go
def halves : Nat → Int → Int
  | 0, n => n
  | k + 1, n => partN (halves k n) 2
/-- The number of rows, from those of the parts. -/
def estF (db : List TData) (k : Int) (s : ByteArray) (c : Tm) (es : List Int) : Int :=
  if ¬ (es.length : Int) = arityP k then 0 else if k = 1 then 1 else if k = 2 then ((rowsD db s).length : Int) else if k = 3 then IntKind.i64.wrap (es.getD 0 0 * es.getD 1 0)
  else if k = 5 then partN (IntKind.i64.wrap (es.getD 0 0 * es.getD 1 0)) 3 else halves (condsT c).length (es.getD 0 0)
mutual
def est (db : List TData) : Pl → Int
  | .mk k _ s c _ xs => estF db k s c (estL db xs)
def estL (db : List TData) : List Pl → List Int
  | [] => []
  | p :: r => est db p :: estL db r
end
theorem estL_eq (db : List TData) : ∀ (l : List Pl), estL db l = l.map (est db)
  | [] => by rw [estL]; rfl
  | p :: r => by rw [estL, estL_eq db r]; rfl
theorem est_eta (db : List TData) (p : Pl) : est db p = estF db p.kind p.table p.cond (p.args.map (est db)) := by
  cases p with
  | mk k v s c ks xs => rw [est, estL_eq]; rfl
/-- Sums, each step wrapped. -/
def sumW (e : Int) (l : List Int) : Int := l.foldl (fun a c => IntKind.i64.wrap (a + c)) e
theorem wrap_add (a b : Int) : IntKind.i64.wrap (IntKind.i64.wrap a + b) = IntKind.i64.wrap (a + b) := by
  simp only [IntKind.wrap, IntKind.bits, IntKind.signed]
  simp
  omega
theorem sumW_at (e : Int) (l : List Int) {i : Nat} (h : i < l.length) : sumW e (l.take (i + 1)) = IntKind.i64.wrap (sumW e (l.take i) + l[i]) := by
  unfold sumW
  rw [List.take_succ_eq_append_getElem h, List.foldl_append]; rfl
theorem sumW_comm (b : Int) : ∀ (l : List Int) (a : Int), IntKind.i64.wrap (sumW a l + b) = sumW (IntKind.i64.wrap (a + b)) l
  | [], a => rfl
  | c :: l, a => by
    have := sumW_comm b l (IntKind.i64.wrap (a + c))
    unfold sumW at this ⊢
    rw [List.foldl_cons, List.foldl_cons, this]
    congr 1
    rw [wrap_add, wrap_add]
    congr 1
    omega
mutual
def cost (db : List TData) : Pl → Int
  | .mk k v s c ks xs => sumW (est db (.mk k v s c ks xs)) (costL db xs)
def costL (db : List TData) : List Pl → List Int
  | [] => []
  | p :: r => cost db p :: costL db r
end
theorem costL_eq (db : List TData) : ∀ (l : List Pl), costL db l = l.map (cost db)
  | [] => by rw [costL]; rfl
  | p :: r => by rw [costL, costL_eq db r]; rfl
theorem cost_eta (db : List TData) (p : Pl) : cost db p = sumW (est db p) (p.args.map (cost db)) := by
  cases p with
  | mk k v s c ks xs => rw [cost, costL_eq]; rfl
theorem wrap_in {n : Int} (h : -9223372036854775808 ≤ n ∧ n ≤ 9223372036854775807) : IntKind.i64.wrap n = n := by
  simp only [IntKind.wrap, IntKind.bits, IntKind.signed]
  simp
  omega
theorem wrap_wrap (n : Int) : IntKind.i64.wrap (IntKind.i64.wrap n) = IntKind.i64.wrap n := by
  have := wrap_add n 0
  simpa using this
theorem halves_in : ∀ (k : Nat) {n : Int}, IntKind.i64.wrap n = n → IntKind.i64.wrap (halves k n) = halves k n
  | 0, n, h => h
  | k + 1, n, h => wrap_wrap _
/-- The least bound of what a plan's nodes ask for. -/
def rowsLe (db : List TData) : Prop := ∀ s, (rowsD db s).length ≤ 2^20
theorem est_in (db : List TData) (hd : okDbs (2^20) db) : ∀ (p : Pl), IntKind.i64.wrap (est db p) = est db p
  | .mk k v s c ks xs => by
    have hr : (rowsD db s).length ≤ 2^20 := by
      unfold rowsD
      split
      · rename_i t ht
        have hm := List.mem_of_find?_eq_some ht
        exact (okTData_iff.1 ((okDbs_iff.1 hd).2 t hm)).2.1
      · simp
    have hx : IntKind.i64.wrap ((estL db xs).getD 0 0) = (estL db xs).getD 0 0 := by
      cases xs with
      | nil => rw [estL]; exact wrap_in (by simp)
      | cons q r => rw [estL]; exact est_in db hd q
    rw [est]
    unfold estF
    split
    · exact wrap_in (by omega)
    split
    · exact wrap_in (by omega)
    split
    · exact wrap_in (by omega)
    split
    · exact wrap_wrap _
    split
    · exact wrap_wrap _
    · exact halves_in _ hx
theorem cost_impl (db : List TData) (hd : okDbs (2^20) db) (p : Pl) : IntKind.i64.wrap (sumW 0 (p.args.map (cost db)) + est db p) = cost db p := by
  rw [sumW_comm, Int.zero_add, est_in db hd, cost_eta]
end Go.VC
/- Data (Plan): how they are measured, copied and compared. -/
namespace Go.VC.T
open Go Go.VC Go.Proofs Go.VC.F
set_option linter.unusedSimpArgs false
set_option linter.unusedVariables false
set_option linter.defProp false
set_option maxRecDepth 100000
set_option maxHeartbeats 2000000
def fc35SPlan := (And.intro (And.intro (And.intro (And.intro (And.intro sz3 (And.intro ag3 zv3)) (And.intro un3 (And.intro sz4 ag4))) (And.intro (And.intro zv4 (And.intro un4 sz9)) (And.intro ag9 (And.intro zv9 un9)))) (And.intro (And.intro (And.intro sz67 (And.intro ag67 zv67)) (And.intro sb67 (And.intro un67 el67))) (And.intro (And.intro ap67 (And.intro sz69 ag69)) (And.intro (And.intro zv69 fl69_0) (And.intro fl69_1 fl69_2))))) (And.intro (And.intro (And.intro (And.intro fl69_3 (And.intro fl69_4 fl69_5)) (And.intro pl69 (And.intro sz70 ag70))) (And.intro (And.intro zv70 (And.intro sb70 un70)) (And.intro (And.intro el70 ap70) (And.intro sz72 ag72)))) (And.intro (And.intro (And.intro zv72 (And.intro fl72_0 fl72_1)) (And.intro fl72_2 (And.intro fl72_3 fl72_4))) (And.intro (And.intro fl72_5 (And.intro pl72 okf84)) (And.intro (And.intro okf85 okf86) (And.intro sz66 sz63))))))
theorem szPlan_of (t : Pl) (h : okPl (2^48) t) (H0 : ∀ left : Int, 0 ≤ left ∧ left ≤ 2^20 → FnP Try.prog 86 [slT ePl t.args, iT left] (iT (szR (zL zPl t.args) left))) (left : Int) (hl : 0 ≤ left ∧ left ≤ 2^20) : FnS Try.prog 35 [] [agT (ePl t), iT left] [] (iT (szR (zPl t) left)) := by
  refine FnS.go [0, 1, 2, 4, 11, 18, 24, 30, 36] [] Try.func35 rfl (fun kt kz => ?_)
  have fcx := fc35SPlan
  simp only [Try.f35]
  have ho := okPl_iff.1 h
  have hs1 : t.var.size = zS t.var := rfl
  have hs2 : t.table.size = zS t.table := rfl
  have hw1 : zS t.var ≤ 2^48 := ho.2.1
  have hw2 : zS t.table ≤ 2^48 := ho.2.2.1
  refine Run ((And.intro (And.intro @ePl_eta (And.intro @eTm_eta @eTy_eta)) (And.intro @hs1 (And.intro @hs2 @szR_add)))) ?_; repeat' (first | (with_reducible exact True.intro) | (with_reducible refine Lf.mk ?_ ?_) | (with_reducible intro hb))
  · congr 4; have s2 := szR_spec (zPl t) left; rw [zPl_eta] at s2 ⊢; omega
  · congr 4; have s2 := szR_spec (zPl t) left; rw [zPl_eta] at s2 ⊢; omega
  · skip
    have e : left - (zS t.var : Int) - (zS t.table : Int) = szR (zS t.var + zS t.table) left := by have s3 := szR_spec (zS t.var + zS t.table) left; omega
    rw [e] at hb ⊢
    refine Cal ((And.intro (And.intro @ePl_eta (And.intro @eTm_eta @eTy_eta)) (And.intro @hs1 (And.intro @hs2 @szR_add)))) (szTerm_ok _ ho.2.2.2.1 _ ⟨(by assumption), by have := szR_le (n := zS t.var + zS t.table) hl.1; omega⟩) ?_
    have hz := szR_le (n := zS t.var + zS t.table + zTm t.cond) hl.1
    refine Run ((And.intro (And.intro @ePl_eta (And.intro @eTm_eta @eTy_eta)) (And.intro @hs1 (And.intro @hs2 @szR_add)))) ?_; repeat' (first | (with_reducible exact True.intro) | (with_reducible refine Lf.mk ?_ ?_) | (with_reducible intro hb))
    · congr 4; have s1 := szR_spec (zS t.var + zS t.table + zTm t.cond) left; have s2 := szR_spec (zPl t) left; rw [zPl_eta] at s2 ⊢; omega
    · skip
      refine Cal ((And.intro (And.intro @ePl_eta (And.intro @eTm_eta @eTy_eta)) (And.intro @hs1 (And.intro @hs2 @szR_add)))) (szTermS_ok _ ho.2.2.2.2.1 _ ⟨(by assumption), by have := szR_le (n := zS t.var + zS t.table + zTm t.cond) hl.1; omega⟩) ?_
      have hz := szR_le (n := zS t.var + zS t.table + zTm t.cond + zL zTm t.keys) hl.1
      refine Run ((And.intro (And.intro @ePl_eta (And.intro @eTm_eta @eTy_eta)) (And.intro @hs1 (And.intro @hs2 @szR_add)))) ?_; repeat' (first | (with_reducible exact True.intro) | (with_reducible refine Lf.mk ?_ ?_) | (with_reducible intro hb))
      · congr 4; have s1 := szR_spec (zS t.var + zS t.table + zTm t.cond + zL zTm t.keys) left; have s2 := szR_spec (zPl t) left; rw [zPl_eta] at s2 ⊢; omega
      · skip
        refine Cal ((And.intro (And.intro @ePl_eta (And.intro @eTm_eta @eTy_eta)) (And.intro @hs1 (And.intro @hs2 @szR_add)))) (H0 _ ⟨(by assumption), by have := szR_le (n := zS t.var + zS t.table + zTm t.cond + zL zTm t.keys) hl.1; omega⟩) ?_
        have hz := szR_le (n := zS t.var + zS t.table + zTm t.cond + zL zTm t.keys + zL zPl t.args) hl.1
        refine Run ((And.intro (And.intro @ePl_eta (And.intro @eTm_eta @eTy_eta)) (And.intro @hs1 (And.intro @hs2 @szR_add)))) ?_; repeat' (first | (with_reducible exact True.intro) | (with_reducible refine Lf.mk ?_ ?_) | (with_reducible intro hb))
        · congr 4; have s1 := szR_spec (zS t.var + zS t.table + zTm t.cond + zL zTm t.keys + zL zPl t.args) left; have s2 := szR_spec (zPl t) left; rw [zPl_eta] at s2 ⊢; omega
        · skip
          rw [zPl_eta]
def fc86SPlan := (And.intro (And.intro (And.intro (And.intro sz3 (And.intro ag3 zv3)) (And.intro (And.intro un3 sz4) (And.intro ag4 zv4))) (And.intro (And.intro un4 (And.intro sz70 ag70)) (And.intro (And.intro zv70 sb70) (And.intro un70 el70)))) (And.intro (And.intro (And.intro ap70 (And.intro sz72 ag72)) (And.intro (And.intro zv72 fl72_0) (And.intro fl72_1 fl72_2))) (And.intro (And.intro (And.intro fl72_3 fl72_4) (And.intro fl72_5 pl72)) (And.intro (And.intro okf35 sz9) (And.intro sz69 sz67)))))
theorem szPlanS_of (xs : List Pl) (hx : okLs (2^48) okPl xs) (H : ∀ t ∈ xs, ∀ left : Int, 0 ≤ left ∧ left ≤ 2^20 → FnP Try.prog 35 [agT (ePl t), iT left] (iT (szR (zPl t) left))) (left : Int) (hl : 0 ≤ left ∧ left ≤ 2^20) : FnS Try.prog 86 [] [slT ePl xs, iT left] [] (iT (szR (zL zPl xs) left)) := by
  refine FnS.go [0, 1, 4, 5, 11, 15, 25] [] Try.func86 rfl (fun kt kz => ?_)
  have fcx := fc86SPlan
  simp only [Try.f86]
  have hx1 := hx.1
  refine Run (cast_succ) ?_; repeat' (first | (with_reducible exact True.intro) | (with_reducible refine Lf.mk ?_ ?_) | (with_reducible intro hb))
  · simp only [szR_nil hb zL_len]
  · rw [szR_sub hb]
    have hb2 := szR_sub hb ▸ hb
    refine Trn (α := Nat) [1, 4, 5, 12, 13, 14, 15, 16, 17, 18, 19, 20, 21, 22, 23, 24, 25] (fun i => [(5, iT i), (1, iT (szR (zT zPl xs i) left))]) (fun i => []) (fun i => i ≤ xs.length ∧ 0 ≤ szR (zT zPl xs i) left) (fun i => xs.length - i) (0) (⟨Nat.zero_le _, by rw [zT_zero]; exact hb2⟩) ((zT_zero (z := zPl) (l := xs))) ?_; intro lx hI; obtain i := lx; (try simp only [List.nil_append, List.cons_append] at hI ⊢)
    have hz := szR_le (n := zT zPl xs lx) hl.1
    by_cases hlt : lx < xs.length
    · have e : szR (zPl xs[lx]) (szR (zT zPl xs lx) left) = szR (zT zPl xs (lx + 1)) left := by rw [zT_succ hlt, ← szR_add]
      refine Run ((And.intro @ePl_eta (And.intro @eTm_eta @eTy_eta))) ?_; repeat' (first | (with_reducible exact True.intro) | (with_reducible refine Lf.mk ?_ ?_) | (with_reducible intro hb))
      · refine Cal ((And.intro @ePl_eta (And.intro @eTm_eta @eTy_eta))) (H _ (List.getElem_mem hlt) _ ⟨hI.2, by omega⟩) ?_
        refine Run (cast_succ) ?_; repeat' (first | (with_reducible exact True.intro) | (with_reducible refine Lf.mk ?_ ?_) | (with_reducible intro hb))
        · rw [e] at hb
          rw [szR_neg hb zT_le]
        · rw [e] at hb
          exact Nxt (@e) (lx + 1) (⟨by omega, hb⟩) (by first | omega | (simp; omega))
      · omega
    · refine Run (cast_succ) ?_; repeat' (first | (with_reducible exact True.intro) | (with_reducible refine Lf.mk ?_ ?_) | (with_reducible intro hb))
      · omega
      · rw [zT_all (by omega)]

theorem szPlan_ok (t : Pl) (h : okPl (2^48) t) (left : Int) (hl : 0 ≤ left ∧ left ≤ 2^20) : FnP Try.prog 35 [agT (ePl t), iT left] (iT (szR (zPl t) left)) := szPlan_of t h (fun left hl => szPlanS_of t.args ((okPl_iff.1 h).2.2.2.2.2) (fun u hu left hl => szPlan_ok u (((okPl_iff.1 h).2.2.2.2.2).2 u hu) left hl) left hl) left hl
termination_by SizeOf.sizeOf t
decreasing_by all_goals first | exact Ty.mem hu | exact Val.mem hu | exact Tm.mem hu | exact Pl.mem hu | exact Hd.memP hu | exact Hd.memQ hu | exact Cmp.memH _
theorem szPlanS_ok (xs : List Pl) (h : okLs (2^48) okPl xs) (left : Int) (hl : 0 ≤ left ∧ left ≤ 2^20) : FnP Try.prog 86 [slT ePl xs, iT left] (iT (szR (zL zPl xs) left)) := szPlanS_of xs h (fun t ht left hl => szPlan_ok t (h.2 t ht) left hl) left hl
def fc37SPlan := (And.intro (And.intro (And.intro (And.intro (And.intro (And.intro sz3 ag3) (And.intro zv3 (And.intro un3 sz9))) (And.intro (And.intro ag9 zv9) (And.intro un9 (And.intro sz67 ag67)))) (And.intro (And.intro (And.intro zv67 sb67) (And.intro un67 (And.intro el67 ap67))) (And.intro (And.intro sz69 ag69) (And.intro zv69 (And.intro fl69_0 fl69_1))))) (And.intro (And.intro (And.intro (And.intro fl69_2 fl69_3) (And.intro fl69_4 (And.intro fl69_5 pl69))) (And.intro (And.intro sz70 ag70) (And.intro zv70 (And.intro sb70 un70)))) (And.intro (And.intro (And.intro el70 ap70) (And.intro sz72 (And.intro ag72 zv72))) (And.intro (And.intro fl72_0 (And.intro fl72_1 fl72_2)) (And.intro fl72_3 (And.intro fl72_4 fl72_5)))))) (And.intro (And.intro (And.intro (And.intro (And.intro pl72 sz78) (And.intro ag78 (And.intro zv78 sb78))) (And.intro (And.intro un78 el78) (And.intro ap78 (And.intro sz80 ag80)))) (And.intro (And.intro (And.intro zv80 fl80_0) (And.intro fl80_1 (And.intro fl80_2 fl80_3))) (And.intro (And.intro fl80_4 fl80_5) (And.intro pl80 (And.intro sz81 ag81))))) (And.intro (And.intro (And.intro (And.intro zv81 sb81) (And.intro un81 (And.intro el81 ap81))) (And.intro (And.intro sz83 ag83) (And.intro zv83 (And.intro fl83_0 fl83_1)))) (And.intro (And.intro (And.intro fl83_2 fl83_3) (And.intro fl83_4 (And.intro fl83_5 pl83))) (And.intro (And.intro okf90 (And.intro okf91 okf92)) (And.intro sz66 (And.intro sz63 sz77)))))))
theorem toPlan_w (t : Pl) (h : okPl (2^20) t) (H0 : ∀ q : Nat, FnS Try.prog 92 [] [slT ePl t.args] [(q, .row t.args.length (t.args.flatMap ePl))] (.c (.os q t.args.length))) : FnS Try.prog 37 [] [agT (ePl t)] [(1000, .row t.cond.ty.labels.length (t.cond.ty.labels.flatMap eS)), (1002, .row t.cond.ty.args.length (t.cond.ty.args.flatMap eTy)), (1004, .row t.cond.labels.length (t.cond.labels.flatMap eS)), (1006, .row t.cond.args.length (t.cond.args.flatMap eTm)), (1008, .row t.keys.length (t.keys.flatMap eTm)), (1010, .row t.args.length (t.args.flatMap ePl))] (.ag [.im (.sc (.int .i64 t.kind)), .im (.sc (.string t.var)), .im (.sc (.string t.table)), .im (.sc (.int .i64 t.cond.kind)), .im (.sc (.string t.cond.name)), .im (.sc (.int .i64 t.cond.n)), .im (.sc (.int .i64 t.cond.ty.kind)), .os 1000 t.cond.ty.labels.length, .os 1002 t.cond.ty.args.length, .os 1004 t.cond.labels.length, .os 1006 t.cond.args.length, .os 1008 t.keys.length, .os 1010 t.args.length]) := by
  refine FnS.go [0, 1, 2, 3] [] Try.func37 rfl (fun kt kz => ?_)
  have fcx := fc37SPlan
  simp only [Try.f37]
  have ho := okPl_iff.1 h
  refine Run ((And.intro @ePl_eta (And.intro @eTm_eta @eTy_eta))) ?_; repeat' (first | (with_reducible exact True.intro) | (with_reducible refine Lf.mk ?_ ?_) | (with_reducible intro hb))
  refine CalI ((And.intro @ePl_eta (And.intro @eTm_eta @eTy_eta))) (toTerm_o _ ho.2.2.2.1 1000 1002 1004 1006 (by decide)) ?_
  refine Run ((And.intro @ePl_eta (And.intro @eTm_eta @eTy_eta))) ?_; repeat' (first | (with_reducible exact True.intro) | (with_reducible refine Lf.mk ?_ ?_) | (with_reducible intro hb))
  refine CalI ((And.intro @ePl_eta (And.intro @eTm_eta @eTy_eta))) (toTermS_o _ ho.2.2.2.2.1 1008) ?_
  refine Run ((And.intro @ePl_eta (And.intro @eTm_eta @eTy_eta))) ?_; repeat' (first | (with_reducible exact True.intro) | (with_reducible refine Lf.mk ?_ ?_) | (with_reducible intro hb))
  refine CalI ((And.intro @ePl_eta (And.intro @eTm_eta @eTy_eta))) (H0 1010) ?_
  refine Run ((And.intro @ePl_eta (And.intro @eTm_eta @eTy_eta))) ?_; repeat' (first | (with_reducible exact True.intro) | (with_reducible refine Lf.mk ?_ ?_) | (with_reducible intro hb))

theorem toPlan_q (t : Pl) (h : okPl (2^20) t) (H0 : ∀ q : Nat, FnS Try.prog 92 [] [slT ePl t.args] [(q, .row t.args.length (t.args.flatMap ePl))] (.c (.os q t.args.length))) : ∀ q0 q1 q2 q3 q4 q5 : Nat, [q0, q1, q2, q3, q4, q5].Nodup → FnS Try.prog 37 [] [agT (ePl t)] [(q0, .row t.cond.ty.labels.length (t.cond.ty.labels.flatMap eS)), (q1, .row t.cond.ty.args.length (t.cond.ty.args.flatMap eTy)), (q2, .row t.cond.labels.length (t.cond.labels.flatMap eS)), (q3, .row t.cond.args.length (t.cond.args.flatMap eTm)), (q4, .row t.keys.length (t.keys.flatMap eTm)), (q5, .row t.args.length (t.args.flatMap ePl))] (.ag [.im (.sc (.int .i64 t.kind)), .im (.sc (.string t.var)), .im (.sc (.string t.table)), .im (.sc (.int .i64 t.cond.kind)), .im (.sc (.string t.cond.name)), .im (.sc (.int .i64 t.cond.n)), .im (.sc (.int .i64 t.cond.ty.kind)), .os q0 t.cond.ty.labels.length, .os q1 t.cond.ty.args.length, .os q2 t.cond.labels.length, .os q3 t.cond.args.length, .os q4 t.keys.length, .os q5 t.args.length]) := by
  intro q0 q1 q2 q3 q4 q5 hq
  obtain ⟨p, hp⟩ := pml [1000, 1002, 1004, 1006, 1008, 1010] [q0, q1, q2, q3, q4, q5] (by decide) hq rfl
  simp only [List.map_cons, List.map_nil, List.cons.injEq, and_true] at hp
  refine ((toPlan_w t h H0).rows.pm p).as ?_ ?_ <;> simp [rowS, rowO, renS, Ob.ren, TV.ren, renL, Cell.ren, hp]
def fc92SPlan := (And.intro (And.intro (And.intro (And.intro (And.intro sz3 (And.intro ag3 zv3)) (And.intro un3 (And.intro sz4 ag4))) (And.intro (And.intro zv4 (And.intro un4 sz70)) (And.intro ag70 (And.intro zv70 sb70)))) (And.intro (And.intro (And.intro un70 (And.intro el70 ap70)) (And.intro sz72 (And.intro ag72 zv72))) (And.intro (And.intro fl72_0 (And.intro fl72_1 fl72_2)) (And.intro fl72_3 (And.intro fl72_4 fl72_5))))) (And.intro (And.intro (And.intro (And.intro pl72 (And.intro sz81 ag81)) (And.intro zv81 (And.intro sb81 un81))) (And.intro (And.intro el81 (And.intro ap81 sz83)) (And.intro ag83 (And.intro zv83 fl83_0)))) (And.intro (And.intro (And.intro fl83_1 (And.intro fl83_2 fl83_3)) (And.intro fl83_4 (And.intro fl83_5 pl83))) (And.intro (And.intro okf37 (And.intro sz9 sz69)) (And.intro sz67 (And.intro sz80 sz78))))))
theorem toPlanS_w (xs : List Pl) (hx : okLs (2^20) okPl xs) (H : ∀ t ∈ xs, ∀ q0 q1 q2 q3 q4 q5 : Nat, [q0, q1, q2, q3, q4, q5].Nodup → FnS Try.prog 37 [] [agT (ePl t)] [(q0, .row t.cond.ty.labels.length (t.cond.ty.labels.flatMap eS)), (q1, .row t.cond.ty.args.length (t.cond.ty.args.flatMap eTy)), (q2, .row t.cond.labels.length (t.cond.labels.flatMap eS)), (q3, .row t.cond.args.length (t.cond.args.flatMap eTm)), (q4, .row t.keys.length (t.keys.flatMap eTm)), (q5, .row t.args.length (t.args.flatMap ePl))] (.ag [.im (.sc (.int .i64 t.kind)), .im (.sc (.string t.var)), .im (.sc (.string t.table)), .im (.sc (.int .i64 t.cond.kind)), .im (.sc (.string t.cond.name)), .im (.sc (.int .i64 t.cond.n)), .im (.sc (.int .i64 t.cond.ty.kind)), .os q0 t.cond.ty.labels.length, .os q1 t.cond.ty.args.length, .os q2 t.cond.labels.length, .os q3 t.cond.args.length, .os q4 t.keys.length, .os q5 t.args.length])) : FnS Try.prog 92 [] [slT ePl xs] [(14, .vec 83 13 xs.length (xs.flatMap ePl) true)] (.c (.os 14 xs.length)) := by
  refine FnS.go [0, 2, 3, 4, 11] [] Try.func92 rfl (fun kt kz => ?_)
  have fcx := fc92SPlan
  simp only [Try.f92]
  have hx1 := hx.1
  refine Run (cast_succ) ?_; repeat' (first | (with_reducible exact True.intro) | (with_reducible refine Lf.mk ?_ ?_) | (with_reducible intro hb))
  refine Trn (α := Nat) [4, 8, 9, 10, 11, 12, 13, 14, 15, 16, 17, 18, 19, 20, 21] (fun i => [(4, iT i), (3, .c (.os 14 xs.length))]) (fun i => [(14, .vec 83 13 xs.length (filled ePl [.sc (.int .i64 0), .sc (.string ⟨#[]⟩), .sc (.string ⟨#[]⟩), .sc (.int .i64 0), .sc (.string ⟨#[]⟩), .sc (.int .i64 0), .sc (.int .i64 0), .sl 0 [], .sl 0 [], .sl 0 [], .sl 0 [], .sl 0 [], .sl 0 []] xs i) true)]) (fun i => i ≤ xs.length) (fun i => xs.length - i) (0) (Nat.zero_le _) (cast_succ) ?_; intro lx hI; obtain i := lx; (try simp only [List.nil_append, List.cons_append] at hI ⊢)
  refine Run ((And.intro @ePl_eta (And.intro @eTm_eta @eTy_eta))) ?_; repeat' (first | (with_reducible exact True.intro) | (with_reducible refine Lf.mk ?_ ?_) | (with_reducible intro hb))
  · refine CalI ((And.intro @ePl_eta (And.intro @eTm_eta @eTy_eta))) (H _ (List.getElem_mem hb) 1000 1002 1004 1006 1008 1010 (by decide)) ?_
    refine Run ((And.intro @ePl_eta (And.intro @eTm_eta @eTy_eta))) ?_; repeat' (first | (with_reducible exact True.intro) | (with_reducible refine Lf.mk ?_ ?_) | (with_reducible intro hb))
    have hs := filled_step' (E := ePl) (zs := [.sc (.int .i64 0), .sc (.string ⟨#[]⟩), .sc (.string ⟨#[]⟩), .sc (.int .i64 0), .sc (.string ⟨#[]⟩), .sc (.int .i64 0), .sc (.int .i64 0), .sl 0 [], .sl 0 [], .sl 0 [], .sl 0 [], .sl 0 [], .sl 0 []]) hb
    simp only [ePl_eta, eTm_eta, eTy_eta, setL_st, stL_one, slI] at hs
    exact Nxt (@hs) (lx + 1) (by omega) (by first | omega | (simp; omega))

theorem toPlanS_q (xs : List Pl) (hx : okLs (2^20) okPl xs) (H : ∀ t ∈ xs, ∀ q0 q1 q2 q3 q4 q5 : Nat, [q0, q1, q2, q3, q4, q5].Nodup → FnS Try.prog 37 [] [agT (ePl t)] [(q0, .row t.cond.ty.labels.length (t.cond.ty.labels.flatMap eS)), (q1, .row t.cond.ty.args.length (t.cond.ty.args.flatMap eTy)), (q2, .row t.cond.labels.length (t.cond.labels.flatMap eS)), (q3, .row t.cond.args.length (t.cond.args.flatMap eTm)), (q4, .row t.keys.length (t.keys.flatMap eTm)), (q5, .row t.args.length (t.args.flatMap ePl))] (.ag [.im (.sc (.int .i64 t.kind)), .im (.sc (.string t.var)), .im (.sc (.string t.table)), .im (.sc (.int .i64 t.cond.kind)), .im (.sc (.string t.cond.name)), .im (.sc (.int .i64 t.cond.n)), .im (.sc (.int .i64 t.cond.ty.kind)), .os q0 t.cond.ty.labels.length, .os q1 t.cond.ty.args.length, .os q2 t.cond.labels.length, .os q3 t.cond.args.length, .os q4 t.keys.length, .os q5 t.args.length])) (q : Nat) : FnS Try.prog 92 [] [slT ePl xs] [(q, .row xs.length (xs.flatMap ePl))] (.c (.os q xs.length)) := by
  obtain ⟨p, hp⟩ := pm1 14 q
  refine ((toPlanS_w xs hx H).rows.pm p).as ?_ ?_ <;> simp [rowS, rowO, renS, Ob.ren, TV.ren, Cell.ren, hp]

theorem toPlan_o (t : Pl) (h : okPl (2^20) t) : ∀ q0 q1 q2 q3 q4 q5 : Nat, [q0, q1, q2, q3, q4, q5].Nodup → FnS Try.prog 37 [] [agT (ePl t)] [(q0, .row t.cond.ty.labels.length (t.cond.ty.labels.flatMap eS)), (q1, .row t.cond.ty.args.length (t.cond.ty.args.flatMap eTy)), (q2, .row t.cond.labels.length (t.cond.labels.flatMap eS)), (q3, .row t.cond.args.length (t.cond.args.flatMap eTm)), (q4, .row t.keys.length (t.keys.flatMap eTm)), (q5, .row t.args.length (t.args.flatMap ePl))] (.ag [.im (.sc (.int .i64 t.kind)), .im (.sc (.string t.var)), .im (.sc (.string t.table)), .im (.sc (.int .i64 t.cond.kind)), .im (.sc (.string t.cond.name)), .im (.sc (.int .i64 t.cond.n)), .im (.sc (.int .i64 t.cond.ty.kind)), .os q0 t.cond.ty.labels.length, .os q1 t.cond.ty.args.length, .os q2 t.cond.labels.length, .os q3 t.cond.args.length, .os q4 t.keys.length, .os q5 t.args.length]) := toPlan_q t h (fun q => toPlanS_q t.args ((okPl_iff.1 h).2.2.2.2.2) (fun u hu => toPlan_o u (((okPl_iff.1 h).2.2.2.2.2).2 u hu)) q)
termination_by SizeOf.sizeOf t
decreasing_by all_goals first | exact Ty.mem hu | exact Val.mem hu | exact Tm.mem hu | exact Pl.mem hu | exact Hd.memP hu | exact Hd.memQ hu | exact Cmp.memH _
theorem toPlanS_o (xs : List Pl) (h : okLs (2^20) okPl xs) (q : Nat) : FnS Try.prog 92 [] [slT ePl xs] [(q, .row xs.length (xs.flatMap ePl))] (.c (.os q xs.length)) := toPlanS_q xs h (fun t ht => toPlan_o t (h.2 t ht)) q
def fc39SPlan := (And.intro (And.intro (And.intro (And.intro (And.intro sz3 (And.intro ag3 zv3)) (And.intro un3 (And.intro sz4 ag4))) (And.intro (And.intro zv4 (And.intro un4 sz9)) (And.intro ag9 (And.intro zv9 un9)))) (And.intro (And.intro (And.intro sz78 (And.intro ag78 zv78)) (And.intro sb78 (And.intro un78 el78))) (And.intro (And.intro ap78 (And.intro sz80 ag80)) (And.intro (And.intro zv80 fl80_0) (And.intro fl80_1 fl80_2))))) (And.intro (And.intro (And.intro (And.intro fl80_3 (And.intro fl80_4 fl80_5)) (And.intro pl80 (And.intro sz81 ag81))) (And.intro (And.intro zv81 (And.intro sb81 un81)) (And.intro (And.intro el81 ap81) (And.intro sz83 ag83)))) (And.intro (And.intro (And.intro zv83 (And.intro fl83_0 fl83_1)) (And.intro fl83_2 (And.intro fl83_3 fl83_4))) (And.intro (And.intro fl83_5 (And.intro pl83 okf94)) (And.intro (And.intro okf95 okf96) (And.intro sz77 sz63))))))
theorem eqPlan_of (t : Pl) (h : okPl (2^20) t) (H0 : FnP Try.prog 96 [slT ePl t.args, slT ePl t.args] (bT true)) : FnS Try.prog 39 [] [agT (ePl t), agT (ePl t)] [] (bT true) := by
  refine FnS.go [0, 1, 2, 3, 4, 9, 14, 19, 25, 31, 37] [] Try.func39 rfl (fun kt kz => ?_)
  have fcx := fc39SPlan
  simp only [Try.f39]
  have ho := okPl_iff.1 h
  refine Run ((And.intro @ePl_eta (And.intro @eTm_eta @eTy_eta))) ?_; repeat' (first | (with_reducible exact True.intro) | (with_reducible refine Lf.mk ?_ ?_) | (with_reducible intro hb))
  refine Cal ((And.intro @ePl_eta (And.intro @eTm_eta @eTy_eta))) (eqTerm_ok _ ho.2.2.2.1) ?_
  refine Run ((And.intro @ePl_eta (And.intro @eTm_eta @eTy_eta))) ?_; repeat' (first | (with_reducible exact True.intro) | (with_reducible refine Lf.mk ?_ ?_) | (with_reducible intro hb))
  refine Cal ((And.intro @ePl_eta (And.intro @eTm_eta @eTy_eta))) (eqTermS_ok _ ho.2.2.2.2.1) ?_
  refine Run ((And.intro @ePl_eta (And.intro @eTm_eta @eTy_eta))) ?_; repeat' (first | (with_reducible exact True.intro) | (with_reducible refine Lf.mk ?_ ?_) | (with_reducible intro hb))
  refine Cal ((And.intro @ePl_eta (And.intro @eTm_eta @eTy_eta))) (H0) ?_
  refine Run ((And.intro @ePl_eta (And.intro @eTm_eta @eTy_eta))) ?_; repeat' (first | (with_reducible exact True.intro) | (with_reducible refine Lf.mk ?_ ?_) | (with_reducible intro hb))
def fc96SPlan := (And.intro (And.intro (And.intro (And.intro sz3 (And.intro ag3 zv3)) (And.intro (And.intro un3 sz4) (And.intro ag4 zv4))) (And.intro (And.intro un4 (And.intro sz81 ag81)) (And.intro (And.intro zv81 sb81) (And.intro un81 el81)))) (And.intro (And.intro (And.intro ap81 (And.intro sz83 ag83)) (And.intro (And.intro zv83 fl83_0) (And.intro fl83_1 fl83_2))) (And.intro (And.intro (And.intro fl83_3 fl83_4) (And.intro fl83_5 pl83)) (And.intro (And.intro okf39 sz9) (And.intro sz80 sz78)))))
theorem eqPlanS_of (xs : List Pl) (hx : okLs (2^20) okPl xs) (H : ∀ t ∈ xs, FnP Try.prog 39 [agT (ePl t), agT (ePl t)] (bT true)) : FnS Try.prog 96 [] [slT ePl xs, slT ePl xs] [] (bT true) := by
  refine FnS.go [0, 1, 4, 5, 10, 14, 26] [] Try.func96 rfl (fun kt kz => ?_)
  have fcx := fc96SPlan
  simp only [Try.f96]
  have hx1 := hx.1
  refine Run (cast_succ) ?_; repeat' (first | (with_reducible exact True.intro) | (with_reducible refine Lf.mk ?_ ?_) | (with_reducible intro hb))
  refine Trn (α := Nat) [4, 5, 11, 12, 13, 14, 15, 16, 17, 18, 19, 20, 21, 22, 23, 24, 25, 26] (fun i => [(5, iT i)]) (fun i => []) (fun i => i ≤ xs.length) (fun i => xs.length - i) (0) (Nat.zero_le _) (cast_succ) ?_; intro lx hI; obtain i := lx; (try simp only [List.nil_append, List.cons_append] at hI ⊢)
  refine Run ((And.intro @ePl_eta (And.intro @eTm_eta @eTy_eta))) ?_; repeat' (first | (with_reducible exact True.intro) | (with_reducible refine Lf.mk ?_ ?_) | (with_reducible intro hb))
  · refine Cal ((And.intro @ePl_eta (And.intro @eTm_eta @eTy_eta))) (H _ (List.getElem_mem hb)) ?_
    refine Run ((And.intro @ePl_eta (And.intro @eTm_eta @eTy_eta))) ?_; repeat' (first | (with_reducible exact True.intro) | (with_reducible refine Lf.mk ?_ ?_) | (with_reducible intro hb))
    exact Nxt (cast_succ) (lx + 1) (by omega) (by first | omega | (simp; omega))

theorem eqPlan_ok (t : Pl) (h : okPl (2^20) t) : FnP Try.prog 39 [agT (ePl t), agT (ePl t)] (bT true) := eqPlan_of t h (eqPlanS_of t.args ((okPl_iff.1 h).2.2.2.2.2) (fun u hu => eqPlan_ok u (((okPl_iff.1 h).2.2.2.2.2).2 u hu)))
termination_by SizeOf.sizeOf t
decreasing_by all_goals first | exact Ty.mem hu | exact Val.mem hu | exact Tm.mem hu | exact Pl.mem hu | exact Hd.memP hu | exact Hd.memQ hu | exact Cmp.memH _
theorem eqPlanS_ok (xs : List Pl) (h : okLs (2^20) okPl xs) : FnP Try.prog 96 [slT ePl xs, slT ePl xs] (bT true) := eqPlanS_of xs h (fun t ht => eqPlan_ok t (h.2 t ht))
theorem toPlan_ok (t : Pl) (h : okPl (2^20) t) : FnP Try.prog 37 [agT (ePl t)] (agT (ePl t)) := (toPlan_o t h 1000 1002 1004 1006 1008 1010 (by decide)).tree (by simp -dsimp (maxSteps := 2000000) (disch := omega) only [vs, ↓Option.bind_some, ev1, ofV, scalarB, Kn, Kb, calleeOf, evLoad, ptr, evField, evFieldAddr, shift, ↓pt_at, ↓pt_at1, evExtract, evBin, evLen, evConv, cellsT, noS, Cell.has, Cell.hasN, Cell.anyN, toIV, toIV0, toIVs, ownC, srcM, Ob.own, Ob.esz, allSc, nilK, lenC, ownCell, isPtr, ptrNil, frzO, Cell.frz, Cell.keys, ↓reduceIte, reduceCtorEq, Nat.reduceEqDiff, Nat.reduceBEq, Nat.reduceBNe, Nat.reduceAdd, Nat.reduceMul, Nat.reduceSub, Nat.reduceLT, Nat.reduceLeDiff, Nat.reducePow, Int.reduceLT, Int.reduceLE, Int.reduceEq, Int.reduceNe, quietB, Nat.reduceMod, Int.reduceToNat, ne_eq, eq_self, exists_const, evBytes, byRow, byL, byStr_size, ifsz, ByteArray.size_append, Option.none_or, Option.some_or, evLook, keyD, ePl_eta, eTm_eta, eTy_eta])
theorem toPlanS_ok (xs : List Pl) (h : okLs (2^20) okPl xs) : FnP Try.prog 92 [slT ePl xs] (slT ePl xs) := (toPlanS_o xs h 1000).tree (by simp -dsimp (maxSteps := 2000000) (disch := omega) only [vs, ↓Option.bind_some, ev1, ofV, scalarB, Kn, Kb, calleeOf, evLoad, ptr, evField, evFieldAddr, shift, ↓pt_at, ↓pt_at1, evExtract, evBin, evLen, evConv, cellsT, noS, Cell.has, Cell.hasN, Cell.anyN, toIV, toIV0, toIVs, ownC, srcM, Ob.own, Ob.esz, allSc, nilK, lenC, ownCell, isPtr, ptrNil, frzO, Cell.frz, Cell.keys, ↓reduceIte, reduceCtorEq, Nat.reduceEqDiff, Nat.reduceBEq, Nat.reduceBNe, Nat.reduceAdd, Nat.reduceMul, Nat.reduceSub, Nat.reduceLT, Nat.reduceLeDiff, Nat.reducePow, Int.reduceLT, Int.reduceLE, Int.reduceEq, Int.reduceNe, quietB, Nat.reduceMod, Int.reduceToNat, ne_eq, eq_self, exists_const, evBytes, byRow, byL, byStr_size, ifsz, ByteArray.size_append, Option.none_or, Option.some_or, evLook, keyD])

end Go.VC.T
/- The estimate. -/
namespace Go.VC.T
open Go Go.VC Go.Proofs Go.VC.F
set_option linter.unusedSimpArgs false
set_option linter.unusedVariables false
set_option linter.defProp false
set_option maxRecDepth 100000
set_option maxHeartbeats 2000000
def fc36A38 := (And.intro (And.intro (And.intro (And.intro (And.intro (And.intro sz3 ag3) (And.intro zv3 un3)) (And.intro (And.intro sz4 ag4) (And.intro zv4 un4))) (And.intro (And.intro (And.intro sz9 ag9) (And.intro zv9 un9)) (And.intro (And.intro sz37 ag37) (And.intro zv37 fl37_0)))) (And.intro (And.intro (And.intro (And.intro pl37 sz78) (And.intro ag78 zv78)) (And.intro (And.intro sb78 un78) (And.intro el78 ap78))) (And.intro (And.intro (And.intro sz80 ag80) (And.intro zv80 fl80_0)) (And.intro (And.intro fl80_1 fl80_2) (And.intro fl80_3 (And.intro fl80_4 fl80_5)))))) (And.intro (And.intro (And.intro (And.intro (And.intro pl80 sz81) (And.intro ag81 zv81)) (And.intro (And.intro sb81 un81) (And.intro el81 ap81))) (And.intro (And.intro (And.intro sz83 ag83) (And.intro zv83 fl83_0)) (And.intro (And.intro fl83_1 fl83_2) (And.intro fl83_3 fl83_4)))) (And.intro (And.intro (And.intro (And.intro fl83_5 pl83) (And.intro sz103 ag103)) (And.intro (And.intro zv103 sb103) (And.intro un103 el103))) (And.intro (And.intro (And.intro ap103 okf36) (And.intro okf59 okf87)) (And.intro (And.intro okf88 okf89) (And.intro sz35 (And.intro sz77 sz63)))))))
theorem specEst_of (db : List TData) (hd : okDbs (2^20) db) (p : Pl) (hp : okPl (2^20) p) (hc : (partsT p.cond).length ≤ 2^20) (H : ∀ u ∈ p.args, FnP Try.prog 36 [agT (eDbs db), agT (ePl u)] (iT (est db u))) : FnS Try.prog 36 [] [agT (eDbs db), agT (ePl p)] [] (iT (est db p)) := by
  refine FnS.go [0, 1, 2, 3, 4, 5, 6, 7, 14, 16, 17, 19, 26, 41, 69] [] Try.func36 rfl (fun kt kz => ?_)
  have fcx := fc36A38
  simp only [Try.f36]
  have ho := okPl_iff.1 hp
  refine Run ((And.intro (And.intro @eDbs_eta @ePl_eta) (And.intro @eTm_eta @eTy_eta))) ?_; repeat' (first | (with_reducible exact True.intro) | (with_reducible refine Lf.mk ?_ ?_) | (with_reducible intro hb))
  refine Cal (cast_succ) (l25Arity_ok p.kind) ?_
  rw [est_eta]
  unfold estF
  by_cases h0 : (p.args.length : Int) = arityP p.kind
  · rw [if_neg (by simp [h0])]
    by_cases h1 : p.kind = 1
    · rw [if_pos h1]
      refine Run ((And.intro (And.intro @eDbs_eta (And.intro @ePl_eta @eTm_eta)) (And.intro @eTy_eta (And.intro @h0 @h1)))) ?_; repeat' (first | (with_reducible exact True.intro) | (with_reducible refine Lf.mk ?_ ?_) | (with_reducible intro hb))
    · rw [if_neg h1]
      by_cases h2 : p.kind = 2
      · rw [if_pos h2]
        refine Run ((And.intro (And.intro @eDbs_eta (And.intro @ePl_eta @eTm_eta)) (And.intro @eTy_eta (And.intro @h0 @h2)))) ?_; repeat' (first | (with_reducible exact True.intro) | (with_reducible refine Lf.mk ?_ ?_) | (with_reducible intro hb))
        refine CalI ((And.intro (And.intro @eDbs_eta @ePl_eta) (And.intro @eTm_eta @eTy_eta))) (rowsOfS_ok db p.table hd) ?_
        refine Run ((And.intro (And.intro @eDbs_eta @ePl_eta) (And.intro @eTm_eta @eTy_eta))) ?_; repeat' (first | (with_reducible exact True.intro) | (with_reducible refine Lf.mk ?_ ?_) | (with_reducible intro hb))
      · rw [if_neg h2]
        by_cases h3 : p.kind = 3
        · rw [if_pos h3]
          have hn : p.args.length = 2 := by rw [h3] at h0; simp [arityP] at h0; omega
          have h30 : 0 < p.args.length := by omega
          have h31 : 1 < p.args.length := by omega
          have H0 := H _ (List.getElem_mem h30)
          have H1 := H _ (List.getElem_mem h31)
          refine Run ((And.intro (And.intro (And.intro @eDbs_eta @ePl_eta) (And.intro @eTm_eta @eTy_eta)) (And.intro (And.intro @h0 @h3) (And.intro @h30 @h31)))) ?_; repeat' (first | (with_reducible exact True.intro) | (with_reducible refine Lf.mk ?_ ?_) | (with_reducible intro hb))
          refine CalI ((And.intro (And.intro @eDbs_eta @ePl_eta) (And.intro @eTm_eta @eTy_eta))) (H0) ?_
          refine Run ((And.intro (And.intro @eDbs_eta (And.intro @ePl_eta @eTm_eta)) (And.intro @eTy_eta (And.intro @h30 @h31)))) ?_; repeat' (first | (with_reducible exact True.intro) | (with_reducible refine Lf.mk ?_ ?_) | (with_reducible intro hb))
          refine CalI ((And.intro (And.intro @eDbs_eta @ePl_eta) (And.intro @eTm_eta @eTy_eta))) (H1) ?_
          refine Run ((And.intro (And.intro @eDbs_eta (And.intro @ePl_eta @eTm_eta)) (And.intro @eTy_eta (And.intro @h30 @h31)))) ?_; repeat' (first | (with_reducible exact True.intro) | (with_reducible refine Lf.mk ?_ ?_) | (with_reducible intro hb))
          simp [List.getD, h30, h31]
        · rw [if_neg h3]
          by_cases h5 : p.kind = 5
          · rw [if_pos h5]
            have hn : p.args.length = 2 := by rw [h5] at h0; simp [arityP] at h0; omega
            have h30 : 0 < p.args.length := by omega
            have h31 : 1 < p.args.length := by omega
            have H0 := H _ (List.getElem_mem h30)
            have H1 := H _ (List.getElem_mem h31)
            refine Run ((And.intro (And.intro (And.intro @eDbs_eta @ePl_eta) (And.intro @eTm_eta @eTy_eta)) (And.intro (And.intro @h0 @h5) (And.intro @h30 @h31)))) ?_; repeat' (first | (with_reducible exact True.intro) | (with_reducible refine Lf.mk ?_ ?_) | (with_reducible intro hb))
            refine CalI ((And.intro (And.intro @eDbs_eta @ePl_eta) (And.intro @eTm_eta @eTy_eta))) (H0) ?_
            refine Run ((And.intro (And.intro @eDbs_eta (And.intro @ePl_eta @eTm_eta)) (And.intro @eTy_eta (And.intro @h30 @h31)))) ?_; repeat' (first | (with_reducible exact True.intro) | (with_reducible refine Lf.mk ?_ ?_) | (with_reducible intro hb))
            refine CalI ((And.intro (And.intro @eDbs_eta @ePl_eta) (And.intro @eTm_eta @eTy_eta))) (H1) ?_
            refine Run ((And.intro (And.intro @eDbs_eta (And.intro @ePl_eta @eTm_eta)) (And.intro @eTy_eta (And.intro @h30 @h31)))) ?_; repeat' (first | (with_reducible exact True.intro) | (with_reducible refine Lf.mk ?_ ?_) | (with_reducible intro hb))
            refine Cal (cast_succ) (l28Part3_ok _) ?_
            refine Run (@eDbs_eta) ?_; repeat' (first | (with_reducible exact True.intro) | (with_reducible refine Lf.mk ?_ ?_) | (with_reducible intro hb))
            simp [List.getD, h30, h31]
          · rw [if_neg h5]
            have h4 : p.kind = 4 := by
              apply Classical.byContradiction
              intro h4
              simp only [arityP, h1, h2, h3, h5, h4, if_false] at h0
              omega
            have hn : p.args.length = 1 := by rw [h4] at h0; simp [arityP] at h0; omega
            have h30 : 0 < p.args.length := by omega
            have H0 := H _ (List.getElem_mem h30)
            refine Run ((And.intro (And.intro @eDbs_eta (And.intro @ePl_eta @eTm_eta)) (And.intro (And.intro @eTy_eta @h0) (And.intro @h4 @h30)))) ?_; repeat' (first | (with_reducible exact True.intro) | (with_reducible refine Lf.mk ?_ ?_) | (with_reducible intro hb))
            refine CalI ((And.intro (And.intro @eDbs_eta @ePl_eta) (And.intro @eTm_eta @eTy_eta))) (H0) ?_
            refine Run ((And.intro (And.intro @eDbs_eta @ePl_eta) (And.intro @eTm_eta (And.intro @eTy_eta @h30)))) ?_; repeat' (first | (with_reducible exact True.intro) | (with_reducible refine Lf.mk ?_ ?_) | (with_reducible intro hb))
            refine CalI ((And.intro (And.intro @eDbs_eta @ePl_eta) (And.intro @eTm_eta @eTy_eta))) (conjOf_ok p.cond ho.2.2.2.1 hc) ?_
            refine Run ((And.intro (And.intro @eDbs_eta @ePl_eta) (And.intro @eTm_eta (And.intro @eTy_eta @h30)))) ?_; repeat' (first | (with_reducible exact True.intro) | (with_reducible refine Lf.mk ?_ ?_) | (with_reducible intro hb))
            have hcl : (condsT p.cond).length ≤ 2^20 := by unfold condsT; split <;> simp; omega
            refine Trn (α := Nat) [5, 7, 66, 67, 68, 69, 70, 71, 72, 73] (fun i => [(7, iT i), (5, iT (halves i (est db p.args[0])))]) (fun i => []) (fun i => i ≤ (condsT p.cond).length) (fun i => (condsT p.cond).length - i) (0) (Nat.zero_le _) ((show halves 0 (est db p.args[0]) = est db p.args[0] from rfl)) ?_; intro lx hI; obtain i := lx; (try simp only [List.nil_append, List.cons_append] at hI ⊢)
            by_cases hlt : lx < (condsT p.cond).length
            · refine Run (@hlt) ?_; repeat' (first | (with_reducible exact True.intro) | (with_reducible refine Lf.mk ?_ ?_) | (with_reducible intro hb))
              refine Cal (cast_succ) (l28Part2_ok _) ?_
              refine Run (@hlt) ?_; repeat' (first | (with_reducible exact True.intro) | (with_reducible refine Lf.mk ?_ ?_) | (with_reducible intro hb))
              exact Nxt ((show halves (lx + 1) (est db p.args[0]) = partN (halves lx (est db p.args[0])) 2 from rfl)) (lx + 1) (hlt) (by first | omega | (simp; omega))
            · obtain rfl : lx = (condsT p.cond).length := by omega
              refine Run (@hlt) ?_; repeat' (first | (with_reducible exact True.intro) | (with_reducible refine Lf.mk ?_ ?_) | (with_reducible intro hb))
              simp [List.getD, h30]
  · rw [if_pos (by simpa using h0)]
    refine Run ((And.intro (And.intro @eDbs_eta @ePl_eta) (And.intro @eTm_eta (And.intro @eTy_eta @h0)))) ?_; repeat' (first | (with_reducible exact True.intro) | (with_reducible refine Lf.mk ?_ ?_) | (with_reducible intro hb))

end Go.VC.T
/- The estimate and the cost: both sides. -/
namespace Go.VC
open Go
mutual
theorem partsT_len : ∀ (t : Tm), (partsT t).length ≤ zTm t + 1
  | .mk k s n ty l [a, b] => by
    have ha := partsT_len a
    have hb := partsT_len b
    rw [partsT, zTm_eta]
    simp only [Tm.name, Tm.ty, Tm.labels, Tm.args]
    split
    · rw [List.length_append]; simp only [zL, List.map_cons, List.map_nil, List.sum_cons, List.sum_nil, List.length_cons, List.length_nil]; omega
    · simp
  | .mk k s n ty l [] => by rw [partsT] <;> simp
  | .mk k s n ty l [a] => by rw [partsT] <;> simp
  | .mk k s n ty l (a :: b :: c :: r) => by rw [partsT] <;> simp
end
theorem parts_cond {t : Tm} {m : Nat} (h : zTm t ≤ m) (h1 : 1 ≤ m) : (partsT t).length ≤ m := by
  by_cases ha : andT t
  · have h30 : 0 < t.args.length := by rw [ha.2.2]; omega
    have h31 : 1 < t.args.length := by rw [ha.2.2]; omega
    rw [partsT_and ha h30 h31, List.length_append]
    have p0 := partsT_len t.args[0]
    have p1 := partsT_len t.args[1]
    have e : t.args = [t.args[0], t.args[1]] := by
      apply List.ext_getElem
      · simp [ha.2.2]
      · intro i hi hj
        have : i = 0 ∨ i = 1 := by rw [ha.2.2] at hi; omega
        rcases this with rfl | rfl <;> rfl
    have hz : zL zTm t.args = 2 + (zTm t.args[0] + zTm t.args[1]) := by
      generalize t.args[0] = a at *
      generalize t.args[1] = b at *
      rw [e]; simp only [zL, List.map_cons, List.map_nil, List.sum_cons, List.sum_nil, List.length_cons, List.length_nil]; omega
    rw [zTm_eta, hz] at h
    omega
  · rw [partsT_one ha]; simpa using h1
theorem zPl_arg {p u : Pl} (h : u ∈ p.args) : zPl u ≤ zPl p := by
  have := zL_mem (z := zPl) h
  rw [zPl_eta p]; omega
theorem zPl_cond (p : Pl) : zTm p.cond ≤ zPl p := by rw [zPl_eta p]; omega
theorem rowsD_len {db : List TData} (hd : okDbs (2^20) db) (s : ByteArray) : (rowsD db s).length ≤ 2^20 := by
  unfold rowsD
  split
  · rename_i t ht
    exact (okTData_iff.1 ((okDbs_iff.1 hd).2 t (List.mem_of_find?_eq_some ht))).2.1
  · simp
theorem getD0 {l : List Int} (h : 0 < l.length) : l.getD 0 0 = l[0] := by simp [List.getD, h]
theorem getD1 {l : List Int} (h : 1 < l.length) : l.getD 1 0 = l[1] := by simp [List.getD, h]
end Go.VC
namespace Go.VC.T
open Go Go.VC Go.Proofs Go.VC.F
set_option linter.unusedSimpArgs false
set_option linter.unusedVariables false
set_option linter.defProp false
set_option maxRecDepth 100000
set_option maxHeartbeats 2000000
theorem specEst_ok (db : List TData) (hd : okDbs (2^20) db) (p : Pl) (hp : okPl (2^20) p) (hz : zPl p ≤ 2^20) : FnP Try.prog 36 [agT (eDbs db), agT (ePl p)] (iT (est db p)) :=
  specEst_of db hd p hp (parts_cond (Nat.le_trans (zPl_cond p) hz) (by omega)) fun u hu => specEst_ok db hd u ((okPl_iff.1 hp).2.2.2.2.2.2 u hu) (Nat.le_trans (zPl_arg hu) hz)
termination_by SizeOf.sizeOf p
decreasing_by exact Pl.mem hu
def fc40A39 := (And.intro (And.intro (And.intro (And.intro (And.intro sz3 ag3) (And.intro zv3 un3)) (And.intro (And.intro sz4 ag4) (And.intro zv4 (And.intro un4 sz37)))) (And.intro (And.intro (And.intro ag37 zv37) (And.intro fl37_0 pl37)) (And.intro (And.intro sz81 ag81) (And.intro zv81 (And.intro sb81 un81))))) (And.intro (And.intro (And.intro (And.intro el81 ap81) (And.intro sz83 ag83)) (And.intro (And.intro zv83 fl83_0) (And.intro fl83_1 (And.intro fl83_2 fl83_3)))) (And.intro (And.intro (And.intro fl83_4 fl83_5) (And.intro pl83 okf36)) (And.intro (And.intro okf40 sz35) (And.intro sz9 (And.intro sz80 sz78))))))
theorem specCost_of (db : List TData) (hd : okDbs (2^20) db) (p : Pl) (hp : okPl (2^20) p) (hz : zPl p ≤ 2^20) (H : ∀ u ∈ p.args, FnP Try.prog 40 [agT (eDbs db), agT (ePl u)] (iT (cost db u))) : FnS Try.prog 40 [] [agT (eDbs db), agT (ePl p)] [] (iT (cost db p)) := by
  refine FnS.go [0, 1, 2, 3, 4, 5, 6, 14] [] Try.func40 rfl (fun kt kz => ?_)
  have fcx := fc40A39
  simp only [Try.f40]
  have ho := okPl_iff.1 hp
  have hl := ho.2.2.2.2.2.1
  rw [cost_eta]
  refine Run ((And.intro (And.intro @eDbs_eta @ePl_eta) (And.intro @eTm_eta @eTy_eta))) ?_; repeat' (first | (with_reducible exact True.intro) | (with_reducible refine Lf.mk ?_ ?_) | (with_reducible intro hb))
  refine CalI ((And.intro (And.intro @eDbs_eta @ePl_eta) (And.intro @eTm_eta @eTy_eta))) (specEst_ok db hd p hp hz) ?_
  refine Run ((And.intro (And.intro @eDbs_eta @ePl_eta) (And.intro @eTm_eta @eTy_eta))) ?_; repeat' (first | (with_reducible exact True.intro) | (with_reducible refine Lf.mk ?_ ?_) | (with_reducible intro hb))
  refine Trn (α := Nat) [5, 6, 10, 11, 12, 13, 14, 15, 16, 17, 18, 19, 20, 21, 22, 23, 24, 25] (fun i => [(6, iT i), (5, iT (sumW (est db p) ((p.args.map (cost db)).take i)))]) (fun i => [(4, .box 37 ((eDbs db).map .im)), (6, .box 83 ((ePl p).map .im))]) (fun i => i ≤ p.args.length) (fun i => p.args.length - i) (0) (Nat.zero_le _) ((And.intro (And.intro @eDbs_eta @ePl_eta) (And.intro @eTm_eta (And.intro @eTy_eta (show sumW (est db p) ((p.args.map (cost db)).take 0) = est db p from rfl))))) ?_; intro lx hI; obtain i := lx; (try simp only [List.nil_append, List.cons_append] at hI ⊢)
  by_cases hlt : lx < p.args.length
  · have e1 := sumW_at (est db p) (p.args.map (cost db)) (i := lx) (by simpa using hlt)
    rw [List.getElem_map] at e1
    have dq : Dq [0, 1, 2, 3, 4, 5, 6] [7, 8, 9] 8 [[0], [], []] := ⟨⟩
    refine RunX ((And.intro (And.intro @eDbs_eta @ePl_eta) (And.intro @eTm_eta (And.intro @eTy_eta @hlt)))) ?_; repeat' (first | (with_reducible exact True.intro) | (with_reducible refine Lf.mk ?_ ?_) | (with_reducible intro hb))
    refine CalI ((And.intro (And.intro @eDbs_eta @ePl_eta) (And.intro @eTm_eta @eTy_eta))) (H _ (List.getElem_mem hlt)) ?_
    refine RunX ((And.intro (And.intro @eDbs_eta @ePl_eta) (And.intro @eTm_eta (And.intro @eTy_eta @hlt)))) ?_; repeat' (first | (with_reducible exact True.intro) | (with_reducible refine Lf.mk ?_ ?_) | (with_reducible intro hb))
    exact Nxt ((And.intro (And.intro @eDbs_eta @ePl_eta) (And.intro @eTm_eta (And.intro @eTy_eta @e1)))) (lx + 1) (hlt) (by first | omega | (simp; omega))
  · obtain rfl : lx = p.args.length := by omega
    refine Run ((And.intro (And.intro @eDbs_eta @ePl_eta) (And.intro @eTm_eta (And.intro @eTy_eta @hlt)))) ?_; repeat' (first | (with_reducible exact True.intro) | (with_reducible refine Lf.mk ?_ ?_) | (with_reducible intro hb))
    rw [List.take_of_length_le (by simp)]

theorem specCost_ok (db : List TData) (hd : okDbs (2^20) db) (p : Pl) (hp : okPl (2^20) p) (hz : zPl p ≤ 2^20) : FnP Try.prog 40 [agT (eDbs db), agT (ePl p)] (iT (cost db p)) :=
  specCost_of db hd p hp hz fun u hu => specCost_ok db hd u ((okPl_iff.1 hp).2.2.2.2.2.2 u hu) (Nat.le_trans (zPl_arg hu) hz)
termination_by SizeOf.sizeOf p
decreasing_by exact Pl.mem hu
def fc62A39 := (And.intro (And.intro (And.intro (And.intro (And.intro sz3 ag3) (And.intro zv3 un3)) (And.intro (And.intro sz4 ag4) (And.intro zv4 (And.intro un4 sz9)))) (And.intro (And.intro (And.intro ag9 zv9) (And.intro un9 sz35)) (And.intro (And.intro ag35 zv35) (And.intro sb35 (And.intro un35 el35))))) (And.intro (And.intro (And.intro (And.intro ap35 sz37) (And.intro ag37 zv37)) (And.intro (And.intro fl37_0 pl37) (And.intro sz103 (And.intro ag103 zv103)))) (And.intro (And.intro (And.intro sb103 un103) (And.intro el103 (And.intro ap103 sz156))) (And.intro (And.intro ag156 zv156) (And.intro fl156_0 (And.intro fl156_1 pl156))))))
theorem rowsOfI_no (db : List TData) (s : ByteArray) (hd : okDbs (2^20) db) (hs : db.any (fun t => decide (t.name = s)) = false) : FnS Try.prog 62 [] [agT (eDbs db), sT s] [] (.c .nl) := by
  refine FnS.go [0, 1, 2, 4, 6, 8, 9, 10, 11, 17] [] Try.func62 rfl (fun kt kz => ?_)
  have fcx := fc62A39
  simp only [Try.f62]
  have ho := okDbs_iff.1 hd
  have hl := ho.1
  refine Run (@eDbs_eta) ?_; repeat' (first | (with_reducible exact True.intro) | (with_reducible refine Lf.mk ?_ ?_) | (with_reducible intro hb))
  refine Trn (α := Nat) [4, 6, 10, 11, 12, 13, 14, 15, 16, 17, 18, 19, 20] (fun i => [(10, iT i)]) (fun i => [(4, .box 37 ((eDbs db).map .im))]) (fun i => i ≤ db.length) (fun i => db.length - i) (0) (Nat.zero_le _) (@eDbs_eta) ?_; intro lx hI; obtain i := lx; (try simp only [List.nil_append, List.cons_append] at hI ⊢)
  by_cases hlt : lx < db.length
  · refine Run ((And.intro @eDbs_eta (And.intro @eTData_eta @hlt))) ?_; repeat' (first | (with_reducible exact True.intro) | (with_reducible refine Lf.mk ?_ ?_) | (with_reducible intro hb))
    · have := List.any_eq_false.1 hs _ (List.getElem_mem hlt)
      simp [hb] at this
    · exact Nxt (@eDbs_eta) (lx + 1) (hlt) (by first | omega | (simp; omega))
  · refine Run ((And.intro @eDbs_eta @hlt)) ?_; repeat' (first | (with_reducible exact True.intro) | (with_reducible refine Lf.mk ?_ ?_) | (with_reducible intro hb))

end Go.VC.T
/- Data (KeyDecl): how they are measured, copied and compared. -/
namespace Go.VC.T
open Go Go.VC Go.Proofs Go.VC.F
set_option linter.unusedSimpArgs false
set_option linter.unusedVariables false
set_option linter.defProp false
set_option maxRecDepth 100000
set_option maxHeartbeats 2000000
def fc17SKeyDecl := (And.intro (And.intro (And.intro (And.intro sz3 ag3) (And.intro zv3 un3)) (And.intro (And.intro sz4 ag4) (And.intro zv4 (And.intro un4 sz9)))) (And.intro (And.intro (And.intro ag9 zv9) (And.intro un9 sz31)) (And.intro (And.intro ag31 zv31) (And.intro fl31_0 (And.intro fl31_1 pl31)))))
theorem szKeyDecl_ok (t : Kd) (h : okKd (2^48) t) (left : Int) (hl : 0 ≤ left ∧ left ≤ 2^20) : FnS Try.prog 17 [] [agT (eKd t), iT left] [] (iT (szR (zKd t) left)) := by
  refine FnS.go [0, 1, 2, 4, 11, 18] [] Try.func17 rfl (fun kt kz => ?_)
  have fcx := fc17SKeyDecl
  simp only [Try.f17]
  have ho := okKd_iff.1 h
  have hs0 : t.table.size = zS t.table := rfl
  have hs1 : t.label.size = zS t.label := rfl
  have hw0 : zS t.table ≤ 2^48 := ho.1
  have hw1 : zS t.label ≤ 2^48 := ho.2
  refine Run ((And.intro (And.intro @eKd_eta @hs0) (And.intro @hs1 @szR_add))) ?_; repeat' (first | (with_reducible exact True.intro) | (with_reducible refine Lf.mk ?_ ?_) | (with_reducible intro hb))
  · congr 4; have s2 := szR_spec (zKd t) left; rw [zKd_eta] at s2 ⊢; omega
  · congr 4; have s2 := szR_spec (zKd t) left; rw [zKd_eta] at s2 ⊢; omega
  · skip
    have e : left - (zS t.table : Int) - (zS t.label : Int) = szR (zS t.table + zS t.label) left := by have s3 := szR_spec (zS t.table + zS t.label) left; omega
    rw [e] at hb ⊢
    rw [zKd_eta]

def fc20SKeyDecl := (And.intro (And.intro (And.intro (And.intro sz9 ag9) (And.intro zv9 un9)) (And.intro (And.intro sz31 ag31) (And.intro zv31 fl31_0))) (And.intro (And.intro (And.intro fl31_1 pl31) (And.intro sz39 ag39)) (And.intro (And.intro zv39 fl39_0) (And.intro fl39_1 pl39))))
theorem toKeyDecl_w (t : Kd) (h : okKd (2^20) t) : FnS Try.prog 20 [] [agT (eKd t)] [] (agT (eKd t)) := by
  refine FnS.go [0, 1, 2, 3] [] Try.func20 rfl (fun kt kz => ?_)
  have fcx := fc20SKeyDecl
  simp only [Try.f20]
  have ho := okKd_iff.1 h
  refine Run (@eKd_eta) ?_; repeat' (first | (with_reducible exact True.intro) | (with_reducible refine Lf.mk ?_ ?_) | (with_reducible intro hb))

theorem toKeyDecl_o (t : Kd) (h : okKd (2^20) t) : FnS Try.prog 20 [] [agT (eKd t)] [] (.ag [.im (.sc (.string t.table)), .im (.sc (.string t.label))]) := (toKeyDecl_w t h).as rfl (by simp [agT, eKd_eta])


theorem toKeyDecl_ok (t : Kd) (h : okKd (2^20) t) : FnP Try.prog 20 [agT (eKd t)] (agT (eKd t)) := (toKeyDecl_o t h).tree (by simp -dsimp (maxSteps := 2000000) (disch := omega) only [vs, ↓Option.bind_some, ev1, ofV, scalarB, Kn, Kb, calleeOf, evLoad, ptr, evField, evFieldAddr, shift, ↓pt_at, ↓pt_at1, evExtract, evBin, evLen, evConv, cellsT, noS, Cell.has, Cell.hasN, Cell.anyN, toIV, toIV0, toIVs, ownC, srcM, Ob.own, Ob.esz, allSc, nilK, lenC, ownCell, isPtr, ptrNil, frzO, Cell.frz, Cell.keys, ↓reduceIte, reduceCtorEq, Nat.reduceEqDiff, Nat.reduceBEq, Nat.reduceBNe, Nat.reduceAdd, Nat.reduceMul, Nat.reduceSub, Nat.reduceLT, Nat.reduceLeDiff, Nat.reducePow, Int.reduceLT, Int.reduceLE, Int.reduceEq, Int.reduceNe, quietB, Nat.reduceMod, Int.reduceToNat, ne_eq, eq_self, exists_const, evBytes, byRow, byL, byStr_size, ifsz, ByteArray.size_append, Option.none_or, Option.some_or, evLook, keyD, eKd_eta])

end Go.VC.T
/- Does a table have a key? -/
namespace Go.VC
open Go
def labP (s : ByteArray) : ByteArray → Bool := fun x => decide (x = s)
/-- The integer of a row in a field. -/
def keyV (s : ByteArray) (v : Val) : Option Int :=
  if v.kind = 3 ∧ 0 ≤ idxI (fun x => decide (x = s)) v.labels then match v.args[(idxI (fun x => decide (x = s)) v.labels).toNat]? with
    | some a => if a.kind = 1 then some a.n else none
    | none => none
  else none
def holdsK (s : ByteArray) : List Val → List Int → Bool
  | [], _ => true
  | v :: r, seen => match keyV s v with
    | none => false
    | some n => if n ∈ seen then false else holdsK s r (seen ++ [n])
theorem holdsK_at {s : ByteArray} {l : List Val} {i : Nat} (h : i < l.length) (seen : List Int) : holdsK s (l.drop i) seen = match keyV s l[i] with | none => false | some n => if n ∈ seen then false else holdsK s (l.drop (i + 1)) (seen ++ [n]) := by
  rw [List.drop_eq_getElem_cons h, holdsK]
theorem holdsK_end {s : ByteArray} {l : List Val} {i : Nat} (h : l.length ≤ i) (seen : List Int) : holdsK s (l.drop i) seen = true := by
  rw [List.drop_of_length_le h, holdsK]
theorem keyV_kind {s : ByteArray} {v : Val} (h : ¬ v.kind = 3) : keyV s v = none := if_neg fun c => h c.1
theorem keyV_neg {s : ByteArray} {v : Val} (h : idxI (fun x => decide (x = s)) v.labels < 0) : keyV s v = none := if_neg fun c => by omega
theorem keyV_far {s : ByteArray} {v : Val} {j : Nat} (hj : idxI (fun x => decide (x = s)) v.labels = (j : Int)) (h : ¬ j < v.args.length) : keyV s v = none := by
  unfold keyV
  rw [hj]
  split
  · rw [show (((j : Nat) : Int)).toNat = j by omega, List.getElem?_eq_none (by omega)]
  · rfl
theorem keyV_bad {s : ByteArray} {v : Val} {j : Nat} (hj : idxI (fun x => decide (x = s)) v.labels = (j : Int)) (h : j < v.args.length) (ha : ¬ v.args[j].kind = 1) : keyV s v = none := by
  unfold keyV
  rw [hj]
  split
  · rw [show (((j : Nat) : Int)).toNat = j by omega, List.getElem?_eq_getElem h]
    simp [ha]
  · rfl
theorem keyV_some {s : ByteArray} {v : Val} {j : Nat} (hk : v.kind = 3) (hj : idxI (fun x => decide (x = s)) v.labels = (j : Int)) (h : j < v.args.length) (ha : v.args[j].kind = 1) : keyV s v = some v.args[j].n := by
  unfold keyV
  rw [hj, if_pos ⟨hk, by omega⟩, show (((j : Nat) : Int)).toNat = j by omega, List.getElem?_eq_getElem h]
  simp [ha]
theorem rowsD_ok {db : List TData} (hd : okDbs (2^20) db) (s : ByteArray) : ∀ v ∈ rowsD db s, okVal (2^20) v := by
  unfold rowsD
  split
  · rename_i t ht
    exact (okTData_iff.1 ((okDbs_iff.1 hd).2 t (List.mem_of_find?_eq_some ht))).2.2
  · simp
def keyN (s : ByteArray) (v : Val) : Int := (keyV s v).getD 0
def keyB' (s : ByteArray) (v : Val) : Bool := (keyV s v).isSome
end Go.VC
namespace Go.VC.T
open Go Go.VC Go.Proofs Go.VC.F
set_option linter.unusedSimpArgs false
set_option linter.unusedVariables false
set_option linter.defProp false
set_option maxRecDepth 100000
set_option maxHeartbeats 2000000
def fc63A47 := (And.intro (And.intro (And.intro (And.intro (And.intro sz3 ag3) (And.intro zv3 un3)) (And.intro (And.intro sz4 ag4) (And.intro zv4 (And.intro un4 sz9)))) (And.intro (And.intro (And.intro ag9 zv9) (And.intro un9 (And.intro sz63 ag63))) (And.intro (And.intro zv63 sb63) (And.intro un63 (And.intro el63 ap63))))) (And.intro (And.intro (And.intro (And.intro sz103 ag103) (And.intro zv103 (And.intro sb103 un103))) (And.intro (And.intro el103 ap103) (And.intro sz107 (And.intro ag107 zv107)))) (And.intro (And.intro (And.intro fl107_0 fl107_1) (And.intro fl107_2 (And.intro fl107_3 pl107))) (And.intro (And.intro sz112 ag112) (And.intro zv112 (And.intro un112 okf117))))))
theorem keyOf_ok (v : Val) (hv : okVal (2^20) v) (s : ByteArray) (rest : List IV) : FnS Try.prog 63 [] [.c (.im (.pt (eVal v ++ rest))), sT s] [] (.tp [iT ((keyV s v).getD 0), bT (keyV s v).isSome]) := by
  refine FnS.go [0, 1, 4, 5, 6, 41] [] Try.func63 rfl (fun kt kz => ?_)
  have fcx := fc63A47
  simp only [Try.f63]
  have ho := okVal_iff.1 hv
  have hl1 := ho.2.2.1.1
  have hl := ho.2.2.2.1
  refine Run ((eVal_eta v)) ?_; repeat' (first | (with_reducible exact True.intro) | (with_reducible refine Lf.mk ?_ ?_) | (with_reducible intro hb))
  refine Cal (cast_succ) (slIdxS_ok v.labels s (by omega)) ?_
  by_cases hk : v.kind = 3
  · by_cases hneg : idxI (fun x => decide (x = s)) v.labels < 0
    · have e : keyV s v = none := keyV_neg hneg
      refine Run ((And.intro (And.intro (eVal_eta v) @hk) (And.intro @hneg @e))) ?_; repeat' (first | (with_reducible exact True.intro) | (with_reducible refine Lf.mk ?_ ?_) | (with_reducible intro hb))
      all_goals rfl
    · obtain ⟨j, hj⟩ : ∃ j : Nat, idxI (fun x => decide (x = s)) v.labels = (j : Int) := ⟨_, (Int.toNat_of_nonneg (by omega)).symm⟩
      have hj0 : ((j : Int) < 0) = False := eq_false (by omega)
      by_cases hlt : j < v.args.length
      · have hle : ((v.args.length : Int) ≤ (j : Int)) = False := eq_false (by omega)
        by_cases ha : v.args[j].kind = 1
        · have e : keyV s v = some v.args[j].n := keyV_some hk hj hlt ha
          refine Run ((And.intro (And.intro (And.intro (eVal_eta v) @hk) (And.intro @hj @hj0)) (And.intro (And.intro @hle @hlt) (And.intro (eVal_eta v.args[j]) (And.intro @ha @e))))) ?_; repeat' (first | (with_reducible exact True.intro) | (with_reducible refine Lf.mk ?_ ?_) | (with_reducible intro hb))
          all_goals rfl
        · have e : keyV s v = none := keyV_bad hj hlt ha
          refine Run ((And.intro (And.intro (And.intro (eVal_eta v) @hk) (And.intro @hj @hj0)) (And.intro (And.intro @hle @hlt) (And.intro (eVal_eta v.args[j]) (And.intro @ha @e))))) ?_; repeat' (first | (with_reducible exact True.intro) | (with_reducible refine Lf.mk ?_ ?_) | (with_reducible intro hb))
          all_goals rfl
      · have e : keyV s v = none := keyV_far hj hlt
        have hle : ((v.args.length : Int) ≤ (j : Int)) = True := eq_true (by omega)
        refine Run ((And.intro (And.intro (eVal_eta v) (And.intro @hk @hj)) (And.intro @hj0 (And.intro @hle @e)))) ?_; repeat' (first | (with_reducible exact True.intro) | (with_reducible refine Lf.mk ?_ ?_) | (with_reducible intro hb))
        all_goals rfl
  · have e : keyV s v = none := keyV_kind hk
    refine Run ((And.intro (eVal_eta v) (And.intro @hk @e))) ?_; repeat' (first | (with_reducible exact True.intro) | (with_reducible refine Lf.mk ?_ ?_) | (with_reducible intro hb))
    all_goals rfl
def fc21A47 := (And.intro (And.intro (And.intro (And.intro (And.intro sz3 ag3) (And.intro zv3 (And.intro un3 sz4))) (And.intro (And.intro ag4 zv4) (And.intro un4 (And.intro sz9 ag9)))) (And.intro (And.intro (And.intro zv9 un9) (And.intro sz37 (And.intro ag37 zv37))) (And.intro (And.intro fl37_0 pl37) (And.intro sz39 (And.intro ag39 zv39))))) (And.intro (And.intro (And.intro (And.intro fl39_0 fl39_1) (And.intro pl39 (And.intro sz103 ag103))) (And.intro (And.intro zv103 sb103) (And.intro un103 (And.intro el103 ap103)))) (And.intro (And.intro (And.intro sz109 ag109) (And.intro zv109 (And.intro mp109 sz112))) (And.intro (And.intro ag112 (And.intro zv112 un112)) (And.intro okf62 (And.intro okf63 sz35))))))
theorem implHK_of (db : List TData) (hd : okDbs (2^20) db) (x : Kd) (hx : okKd (2^20) x) (ha : db.any (fun t => decide (t.name = x.table)) = true) : FnS Try.prog 21 [] [agT (eDbs db), agT (eKd x)] [] (bT (holdsK x.label (rowsD db x.table) [])) := by
  refine FnS.go [0, 1, 2, 3, 4, 5, 6, 7, 8, 9, 16, 17, 18, 35] [] Try.func21 rfl (fun kt kz => ?_)
  have fcx := fc21A47
  simp only [Try.f21]
  have hrl := rowsD_len hd x.table
  have hrv : ∀ v ∈ rowsD db x.table, okVal (2^20) v := rowsD_ok hd x.table
  generalize hR : rowsD db x.table = R at *
  refine Run ((And.intro (eDbs_eta db) @eKd_eta)) ?_; repeat' (first | (with_reducible exact True.intro) | (with_reducible refine Lf.mk ?_ ?_) | (with_reducible intro hb))
  refine CalI ((And.intro (eDbs_eta db) @eKd_eta)) (rowsOfI_ok db x.table hd ha) ?_
  refine Run ((And.intro (eDbs_eta db) (And.intro @eKd_eta @hR))) ?_; repeat' (first | (with_reducible exact True.intro) | (with_reducible refine Lf.mk ?_ ?_) | (with_reducible intro hb))
  refine Trn (α := Nat × List Int) [4, 7, 8, 9, 17, 18, 19, 20, 21, 22, 23, 24, 25, 26, 27, 28, 29, 30, 31, 32, 33, 34, 35, 36, 37, 38] (fun ⟨i, seen⟩ => [(17, iT i)]) (fun ⟨i, seen⟩ => [(4, .box 37 ((eDbs db).map .im)), (6, .box 39 ((eKd x).map .im)), (20, .map (.int .i64) (seenI seen))]) (fun ⟨i, seen⟩ => i ≤ R.length ∧ holdsK x.label R [] = holdsK x.label (R.drop i) seen) (fun ⟨i, seen⟩ => R.length - i) ((0, [])) (⟨Nat.zero_le _, rfl⟩) ((And.intro (eDbs_eta db) (And.intro @eKd_eta @seenI_no))) ?_; intro lx hI; obtain ⟨i, seen⟩ := lx; (try simp only [List.nil_append, List.cons_append] at hI ⊢)
  by_cases hlt : i < R.length
  · have hst := holdsK_at (s := x.label) hlt seen
    refine Run ((And.intro (eDbs_eta db) (And.intro @eKd_eta @hlt))) ?_; repeat' (first | (with_reducible exact True.intro) | (with_reducible refine Lf.mk ?_ ?_) | (with_reducible intro hb))
    refine CalI ((And.intro (eDbs_eta db) @eKd_eta)) (keyOf_ok R[i] (hrv _ (List.getElem_mem hlt)) x.label _) ?_
    cases hkv : keyV x.label R[i] with
    | none =>
      rw [hkv] at hst
      have hres : holdsK x.label R [] = false := by rw [hI.2, hst]
      refine Run ((And.intro (And.intro (eDbs_eta db) @eKd_eta) (And.intro @hkv @hres))) ?_; repeat' (first | (with_reducible exact True.intro) | (with_reducible refine Lf.mk ?_ ?_) | (with_reducible intro hb))
    | some n =>
      rw [hkv] at hst
      simp only at hst
      by_cases hm : n ∈ seen
      · rw [if_pos hm] at hst
        have hres : holdsK x.label R [] = false := by rw [hI.2, hst]
        refine Run ((And.intro (And.intro (eDbs_eta db) (And.intro @eKd_eta @hkv)) (And.intro @seenI_get (And.intro @hm @hres)))) ?_; repeat' (first | (with_reducible exact True.intro) | (with_reducible refine Lf.mk ?_ ?_) | (with_reducible intro hb))
      · rw [if_neg hm] at hst
        refine Run ((And.intro (And.intro (eDbs_eta db) @eKd_eta) (And.intro @hkv (And.intro @seenI_get @hm)))) ?_; repeat' (first | (with_reducible exact True.intro) | (with_reducible refine Lf.mk ?_ ?_) | (with_reducible intro hb))
        exact Nxt ((And.intro (eDbs_eta db) (And.intro @eKd_eta @seenI_put))) ((i + 1, seen ++ [n])) (⟨by omega, by rw [hI.2, hst]⟩) (by first | omega | (simp; omega))
  · have hres : holdsK x.label R [] = true := by rw [hI.2, holdsK_end (by omega)]
    refine Run ((And.intro (And.intro (eDbs_eta db) @eKd_eta) (And.intro @hlt @hres))) ?_; repeat' (first | (with_reducible exact True.intro) | (with_reducible refine Lf.mk ?_ ?_) | (with_reducible intro hb))
theorem implHK_no (db : List TData) (hd : okDbs (2^20) db) (x : Kd) (ha : db.any (fun t => decide (t.name = x.table)) = false) : FnS Try.prog 21 [] [agT (eDbs db), agT (eKd x)] [] (bT true) := by
  refine FnS.go [0, 1, 2, 3, 4, 5, 6, 7, 8, 9, 16, 17, 18, 35] [] Try.func21 rfl (fun kt kz => ?_)
  have fcx := fc21A47
  simp only [Try.f21]
  refine Run ((And.intro (eDbs_eta db) @eKd_eta)) ?_; repeat' (first | (with_reducible exact True.intro) | (with_reducible refine Lf.mk ?_ ?_) | (with_reducible intro hb))
  refine CalI ((And.intro (eDbs_eta db) @eKd_eta)) (rowsOfI_no db x.table hd ha) ?_
  refine Run ((And.intro (eDbs_eta db) @eKd_eta)) ?_; repeat' (first | (with_reducible exact True.intro) | (with_reducible refine Lf.mk ?_ ?_) | (with_reducible intro hb))
  refine Trn (α := Nat) [4, 7, 8, 9, 17, 18, 19, 20, 21, 22, 23, 24, 25, 26, 27, 28, 29, 30, 31, 32, 33, 34, 35, 36, 37, 38] (fun i => [(17, iT 0)]) (fun i => [(4, .box 37 ((eDbs db).map .im)), (6, .box 39 ((eKd x).map .im)), (20, .map (.int .i64) mNo)]) (fun i => True) (fun i => 0) (0) (trivial) ((And.intro (eDbs_eta db) @eKd_eta)) ?_; intro lx hI; obtain i := lx; (try simp only [List.nil_append, List.cons_append] at hI ⊢)
  refine Run ((And.intro (eDbs_eta db) @eKd_eta)) ?_; repeat' (first | (with_reducible exact True.intro) | (with_reducible refine Lf.mk ?_ ?_) | (with_reducible intro hb))
def fc18A47 := (And.intro (And.intro (And.intro (And.intro (And.intro sz3 (And.intro ag3 zv3)) (And.intro un3 (And.intro sz4 ag4))) (And.intro (And.intro zv4 (And.intro un4 sz9)) (And.intro (And.intro ag9 zv9) (And.intro un9 sz37)))) (And.intro (And.intro (And.intro ag37 (And.intro zv37 fl37_0)) (And.intro (And.intro pl37 sz39) (And.intro ag39 zv39))) (And.intro (And.intro fl39_0 (And.intro fl39_1 pl39)) (And.intro (And.intro sz63 ag63) (And.intro zv63 sb63))))) (And.intro (And.intro (And.intro (And.intro un63 (And.intro el63 ap63)) (And.intro (And.intro sz95 ag95) (And.intro zv95 sb95))) (And.intro (And.intro un95 (And.intro el95 ap95)) (And.intro (And.intro sz103 ag103) (And.intro zv103 sb103)))) (And.intro (And.intro (And.intro un103 (And.intro el103 ap103)) (And.intro (And.intro sz107 ag107) (And.intro zv107 fl107_0))) (And.intro (And.intro fl107_1 (And.intro fl107_2 fl107_3)) (And.intro (And.intro pl107 okf59) (And.intro okf60 sz35))))))
theorem specHK_ok (db : List TData) (hd : okDbs (2^20) db) (x : Kd) : FnS Try.prog 18 [] [agT (eDbs db), agT (eKd x)] [] (bT (holdsK x.label (rowsD db x.table) [])) := by
  refine FnS.go [0, 1, 2, 3, 4, 5, 6, 7, 8, 9, 18, 60, 64, 80] [] Try.func18 rfl (fun kt kz => ?_)
  have fcx := fc18A47
  simp only [Try.f18]
  have hrl := rowsD_len hd x.table
  have hrv : ∀ v ∈ rowsD db x.table, okVal (2^20) v := rowsD_ok hd x.table
  have hro := rowsOfS_ok db x.table hd
  generalize hR : rowsD db x.table = R at *
  refine Run ((And.intro (eDbs_eta db) @eKd_eta)) ?_; repeat' (first | (with_reducible exact True.intro) | (with_reducible refine Lf.mk ?_ ?_) | (with_reducible intro hb))
  refine CalI ((And.intro (eDbs_eta db) @eKd_eta)) (hro) ?_
  refine Run ((And.intro (eDbs_eta db) @eKd_eta)) ?_; repeat' (first | (with_reducible exact True.intro) | (with_reducible refine Lf.mk ?_ ?_) | (with_reducible intro hb))
  refine Trn (α := Nat × List Int) [4, 6, 7, 8, 9, 15, 16, 17, 18, 19, 20, 21, 22, 23, 24, 25, 26, 27, 28, 29, 30, 31, 32, 33, 34, 35, 36, 37, 38, 39, 40, 41, 42, 43, 44, 45, 46, 47, 48, 49, 50, 51, 52, 53, 54, 55, 56, 57, 58, 59, 60, 61, 62, 63, 64, 65, 66, 67, 68, 69, 70, 71, 72, 73, 74, 75, 76, 77, 78, 79, 80, 81, 82, 83, 84, 85, 86, 87, 88, 89, 90, 91, 92] (fun ⟨i, seen⟩ => [(7, iT i), (6, .c (.os 28 seen.length))]) (fun ⟨i, seen⟩ => [(4, .box 37 ((eDbs db).map .im)), (6, .box 39 ((eKd x).map .im)), (28, .vec 3 1 seen.length (seen.flatMap eI) true)]) (fun ⟨i, seen⟩ => i ≤ R.length ∧ seen.length = i ∧ holdsK x.label R [] = holdsK x.label (R.drop i) seen) (fun ⟨i, seen⟩ => R.length - i) ((0, [])) (⟨Nat.zero_le _, rfl, rfl⟩) ((And.intro (eDbs_eta db) @eKd_eta)) ?_; intro lx hI; obtain ⟨i, seen⟩ := lx; (try simp only [List.nil_append, List.cons_append] at hI ⊢)
  by_cases hlt : i < R.length
  · have hst := holdsK_at (s := x.label) hlt seen
    have ho := okVal_iff.1 (hrv _ (List.getElem_mem hlt))
    have hl1 := ho.2.2.1.1
    have hl := ho.2.2.2.1
    refine Run ((And.intro (And.intro (eDbs_eta db) @eKd_eta) (And.intro @hlt (eVal_eta R[i])))) ?_; repeat' (first | (with_reducible exact True.intro) | (with_reducible refine Lf.mk ?_ ?_) | (with_reducible intro hb))
    refine CalI ((And.intro (eDbs_eta db) @eKd_eta)) (indexOf_ok R[i].labels x.label (by omega)) ?_
    have hbad : keyV x.label R[i] = none → holdsK x.label R [] = false := fun e => by rw [hI.2.2, hst, e]
    by_cases hk : R[i].kind = 3
    · by_cases hneg : idxI (fun y => decide (y = x.label)) R[i].labels < 0
      · have hres := hbad (keyV_neg hneg)
        refine Run ((And.intro (And.intro (eDbs_eta db) (And.intro @eKd_eta @hlt)) (And.intro (And.intro (eVal_eta R[i]) @hk) (And.intro @hneg @hres)))) ?_; repeat' (first | (with_reducible exact True.intro) | (with_reducible refine Lf.mk ?_ ?_) | (with_reducible intro hb))
      · obtain ⟨j, hj⟩ : ∃ j : Nat, idxI (fun y => decide (y = x.label)) R[i].labels = (j : Int) := ⟨(idxI (fun y => decide (y = x.label)) R[i].labels).toNat, by omega⟩
        have hj0 : ((j : Int) < 0) = False := eq_false (by omega)
        by_cases hjl : j < R[i].args.length
        · have hle : ((R[i].args.length : Int) ≤ (j : Int)) = False := eq_false (by omega)
          by_cases ha : R[i].args[j].kind = 1
          · have e : keyV x.label R[i] = some R[i].args[j].n := keyV_some hk hj hjl ha
            rw [e] at hst
            simp only at hst
            refine Run ((And.intro (And.intro (And.intro (eDbs_eta db) @eKd_eta) (And.intro @hlt (And.intro (eVal_eta R[i]) @hk))) (And.intro (And.intro @hj (And.intro @hj0 @hle)) (And.intro @hjl (And.intro (eVal_eta R[i].args[j]) @ha))))) ?_; repeat' (first | (with_reducible exact True.intro) | (with_reducible refine Lf.mk ?_ ?_) | (with_reducible intro hb))
            refine Trn (α := Nat) [4, 9, 61, 62, 63, 64, 65, 66, 67, 68, 69, 70, 71, 72, 73, 74, 75, 76, 77, 78, 79, 80] (fun q => [(9, iT q)]) (fun q => [(4, .box 37 ((eDbs db).map .im)), (6, .box 39 ((eKd x).map .im)), (28, .vec 3 1 seen.length (seen.flatMap eI) true)]) (fun q => q ≤ seen.length ∧ R[i].args[j].n ∉ seen.take q) (fun q => seen.length - q) (0) (⟨Nat.zero_le _, by simp⟩) ((And.intro (eDbs_eta db) @eKd_eta)) ?_; intro ly hJ; obtain q := ly; (try simp only [List.nil_append, List.cons_append] at hJ ⊢)
            by_cases hqs : ly < seen.length
            · have e5 := (flat_get1 (E := eI) hqs)
              simp only [eI, List.getElem?_cons_zero] at e5
              by_cases hs : seen[ly] = R[i].args[j].n
              · have hm : R[i].args[j].n ∈ seen := by rw [← hs]; exact List.getElem_mem hqs
                rw [if_pos hm] at hst
                have hres : holdsK x.label R [] = false := by rw [hI.2.2, hst]
                refine Run ((And.intro (And.intro (And.intro (And.intro (eDbs_eta db) @eKd_eta) (And.intro @hlt (eVal_eta R[i]))) (And.intro (And.intro @hj @hjl) (And.intro (eVal_eta R[i].args[j]) @hqs))) (And.intro (And.intro (And.intro @eI.eq_1 @e5) (And.intro @ivl @iv0)) (And.intro (And.intro @ivs @ownCells_get) (And.intro @hs @hres))))) ?_; repeat' (first | (with_reducible exact True.intro) | (with_reducible refine Lf.mk ?_ ?_) | (with_reducible intro hb))
              · refine Run ((And.intro (And.intro (And.intro (eDbs_eta db) (And.intro @eKd_eta @hlt)) (And.intro (And.intro (eVal_eta R[i]) @hj) (And.intro @hjl (eVal_eta R[i].args[j])))) (And.intro (And.intro (And.intro @hqs @eI.eq_1) (And.intro @e5 @ivl)) (And.intro (And.intro @iv0 @ivs) (And.intro @ownCells_get @hs))))) ?_; repeat' (first | (with_reducible exact True.intro) | (with_reducible refine Lf.mk ?_ ?_) | (with_reducible intro hb))
                exact Nxt ((And.intro (eDbs_eta db) @eKd_eta)) (ly + 1) (⟨hqs, by rw [take_at hqs]; simp only [List.mem_append, List.mem_singleton, not_or]; exact ⟨hJ.2, fun h => hs h.symm⟩⟩) (by first | omega | (simp; omega))
            · have hm : R[i].args[j].n ∉ seen := by have h := hJ.2; rw [List.take_of_length_le (by omega)] at h; exact h
              rw [if_neg hm] at hst
              have e6 : seen.flatMap eI ++ [IV.sc (.int .i64 R[i].args[j].n)] = (seen ++ [R[i].args[j].n]).flatMap eI := by rw [List.flatMap_append]; rfl
              have e7 : seen.length + 1 = (seen ++ [R[i].args[j].n]).length := by simp
              refine Run ((And.intro (And.intro (And.intro (eDbs_eta db) @eKd_eta) (And.intro @hlt (eVal_eta R[i]))) (And.intro (And.intro @hj @hjl) (And.intro (eVal_eta R[i].args[j]) @hqs)))) ?_; repeat' (first | (with_reducible exact True.intro) | (with_reducible refine Lf.mk ?_ ?_) | (with_reducible intro hb))
              exact Nxt ((And.intro (And.intro (eDbs_eta db) @eKd_eta) (And.intro @e6 @e7))) ((i + 1, seen ++ [R[i].args[j].n])) (⟨hlt, by rw [← e7]; omega, by rw [hI.2.2, hst]⟩) (by first | omega | (simp; omega))
          · have hres := hbad (keyV_bad hj hjl ha)
            refine Run ((And.intro (And.intro (And.intro (eDbs_eta db) (And.intro @eKd_eta @hlt)) (And.intro (eVal_eta R[i]) (And.intro @hk @hj))) (And.intro (And.intro @hj0 (And.intro @hle @hjl)) (And.intro (eVal_eta R[i].args[j]) (And.intro @ha @hres))))) ?_; repeat' (first | (with_reducible exact True.intro) | (with_reducible refine Lf.mk ?_ ?_) | (with_reducible intro hb))
        · have hres := hbad (keyV_far hj hjl)
          have hle : ((R[i].args.length : Int) ≤ (j : Int)) = True := eq_true (by omega)
          refine Run ((And.intro (And.intro (And.intro (eDbs_eta db) @eKd_eta) (And.intro @hlt (eVal_eta R[i]))) (And.intro (And.intro @hk @hj) (And.intro @hj0 (And.intro @hle @hres))))) ?_; repeat' (first | (with_reducible exact True.intro) | (with_reducible refine Lf.mk ?_ ?_) | (with_reducible intro hb))
    · have hres := hbad (keyV_kind hk)
      refine Run ((And.intro (And.intro (eDbs_eta db) (And.intro @eKd_eta @hlt)) (And.intro (eVal_eta R[i]) (And.intro @hk @hres)))) ?_; repeat' (first | (with_reducible exact True.intro) | (with_reducible refine Lf.mk ?_ ?_) | (with_reducible intro hb))
  · have hres : holdsK x.label R [] = true := by rw [hI.2.2, holdsK_end (by omega)]
    refine Run ((And.intro (And.intro (eDbs_eta db) @eKd_eta) (And.intro @hlt @hres))) ?_; repeat' (first | (with_reducible exact True.intro) | (with_reducible refine Lf.mk ?_ ?_) | (with_reducible intro hb))

theorem implHK_ok (db : List TData) (hd : okDbs (2^20) db) (x : Kd) (hx : okKd (2^20) x) : FnP Try.prog 21 [agT (eDbs db), agT (eKd x)] (bT (holdsK x.label (rowsD db x.table) [])) := by
  cases ha : db.any (fun t => decide (t.name = x.table)) with
  | true => exact implHK_of db hd x hx ha
  | false =>
    rw [rowsD_no ha]
    exact implHK_no db hd x ha
def fc4A47 := (And.intro (And.intro (And.intro (And.intro (And.intro sz3 ag3) (And.intro zv3 (And.intro un3 sz4))) (And.intro (And.intro ag4 zv4) (And.intro un4 (And.intro sz29 ag29)))) (And.intro (And.intro (And.intro zv29 fl29_0) (And.intro pl29 (And.intro sz31 ag31))) (And.intro (And.intro zv31 fl31_0) (And.intro fl31_1 (And.intro pl31 sz37))))) (And.intro (And.intro (And.intro (And.intro ag37 zv37) (And.intro fl37_0 (And.intro pl37 sz39))) (And.intro (And.intro ag39 zv39) (And.intro fl39_0 (And.intro fl39_1 pl39)))) (And.intro (And.intro (And.intro okf16 okf17) (And.intro okf18 (And.intro okf19 okf20))) (And.intro (And.intro okf21 okf22) (And.intro sz27 (And.intro sz9 sz35))))))
theorem holdsKey_law (a : List TData) (b : Kd) (ha : okDbs (2^48) a) (kb : okKd (2^48) b) : FnS Try.prog 4 [] [agT (eDbs a), agT (eKd b)] [] (bT true) := by
  refine FnS.go [0, 1, 2, 3, 4, 5, 6, 7, 8, 13, 18, 32, 37] [] Try.func4 rfl (fun kt kz => ?_)
  have fcx := fc4A47
  simp only [Try.f4]
  refine Run ((And.intro (eDbs_eta a) @eKd_eta)) ?_; repeat' (first | (with_reducible exact True.intro) | (with_reducible refine Lf.mk ?_ ?_) | (with_reducible intro hb))
  refine Cal ((And.intro (eDbs_eta a) @eKd_eta)) (szDB_ok a ha 1048576 ⟨by omega, by omega⟩) ?_
  refine Run ((And.intro (eDbs_eta a) @eKd_eta)) ?_; repeat' (first | (with_reducible exact True.intro) | (with_reducible refine Lf.mk ?_ ?_) | (with_reducible intro hb))
  have h1 := szR_spec (zDbs a) 1048576
  have ha' : okDbs (2^20) a := okDbs_down ha (by omega)
  refine Cal ((And.intro (eDbs_eta a) @eKd_eta)) (szKeyDecl_ok b kb _ ⟨by omega, by omega⟩) ?_
  refine Run ((And.intro (eDbs_eta a) @eKd_eta)) ?_; repeat' (first | (with_reducible exact True.intro) | (with_reducible refine Lf.mk ?_ ?_) | (with_reducible intro hb))
  have h2 := szR_spec (zKd b) (szR (zDbs a) 1048576)
  have kb' : okKd (2^20) b := okKd_down kb (by omega)
  have hta := toDB_ok a ha'
  have htb := toKeyDecl_ok b kb'
  refine CalI ((And.intro (eDbs_eta a) @eKd_eta)) (hta) ?_
  refine Run ((And.intro (eDbs_eta a) @eKd_eta)) ?_; repeat' (first | (with_reducible exact True.intro) | (with_reducible refine Lf.mk ?_ ?_) | (with_reducible intro hb))
  refine CalI ((And.intro (eDbs_eta a) @eKd_eta)) (htb) ?_
  refine Run ((And.intro (eDbs_eta a) @eKd_eta)) ?_; repeat' (first | (with_reducible exact True.intro) | (with_reducible refine Lf.mk ?_ ?_) | (with_reducible intro hb))
  refine Cal ((And.intro (eDbs_eta a) @eKd_eta)) (specHK_ok a ha' b) ?_
  refine Run ((And.intro (eDbs_eta a) @eKd_eta)) ?_; repeat' (first | (with_reducible exact True.intro) | (with_reducible refine Lf.mk ?_ ?_) | (with_reducible intro hb))
  refine CalI ((And.intro (eDbs_eta a) @eKd_eta)) (hta) ?_
  refine Run ((And.intro (eDbs_eta a) @eKd_eta)) ?_; repeat' (first | (with_reducible exact True.intro) | (with_reducible refine Lf.mk ?_ ?_) | (with_reducible intro hb))
  refine CalI ((And.intro (eDbs_eta a) @eKd_eta)) (htb) ?_
  refine Run ((And.intro (eDbs_eta a) @eKd_eta)) ?_; repeat' (first | (with_reducible exact True.intro) | (with_reducible refine Lf.mk ?_ ?_) | (with_reducible intro hb))
  refine Cal ((And.intro (eDbs_eta a) @eKd_eta)) (implHK_ok a ha' b kb') ?_
  refine Run ((And.intro (eDbs_eta a) @eKd_eta)) ?_; repeat' (first | (with_reducible exact True.intro) | (with_reducible refine Lf.mk ?_ ?_) | (with_reducible intro hb))
  refine CalI ((And.intro (eDbs_eta a) @eKd_eta)) (hta) ?_
  refine Run ((And.intro (eDbs_eta a) @eKd_eta)) ?_; repeat' (first | (with_reducible exact True.intro) | (with_reducible refine Lf.mk ?_ ?_) | (with_reducible intro hb))
  refine Cal ((And.intro (eDbs_eta a) @eKd_eta)) (eqDB_ok a ha') ?_
  refine Run ((And.intro (eDbs_eta a) @eKd_eta)) ?_; repeat' (first | (with_reducible exact True.intro) | (with_reducible refine Lf.mk ?_ ?_) | (with_reducible intro hb))

end Go.VC.T
