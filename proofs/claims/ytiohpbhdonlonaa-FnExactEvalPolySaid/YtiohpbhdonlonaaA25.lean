/- Values of polynomials. -/
import Derived.Test.YtiohpbhdonlonaaA24
namespace Go.VC
open Go
def hasT (z : List ByteArray) (v : ByteArray) : Bool := z.any (fun x => decide (x = v))
def evT (z : List ByteArray) (m : Mono) : Int := if m.vars.any (hasT z) then 0 else m.coef
def evP (z : List ByteArray) (l : List Mono) : Int := (l.map (evT z)).sum
theorem evP_zero {z : List ByteArray} {l : List Mono} : evP z (l.take 0) = 0 := by simp [evP]
theorem evP_succ {z : List ByteArray} {l : List Mono} {i : Nat} (h : i < l.length) : evP z (l.take (i + 1)) = evP z (l.take i) + evT z l[i] := by
  unfold evP
  rw [take_at h, List.map_append, List.sum_append]; simp
theorem evP_all {z : List ByteArray} {l : List Mono} {i : Nat} (h : l.length ≤ i) : evP z (l.take i) = evP z l := by rw [List.take_of_length_le h]
theorem evT_le {z : List ByteArray} {l : List Mono} (hp : PolyOk l) {i : Nat} (h : i < l.length) : 0 ≤ evT z l[i] ∧ evT z l[i] ≤ 1000000 ∧ 1 ≤ l[i].coef ∧ l[i].coef ≤ 1000000 := by
  have hm := (polyTo_at h hp.1).1.1
  unfold evT
  split <;> omega
theorem evP_le {z : List ByteArray} {l : List Mono} (hp : PolyOk l) : ∀ (i : Nat), i ≤ l.length → 0 ≤ evP z (l.take i) ∧ evP z (l.take i) ≤ 1000000 * i
  | 0, _ => by rw [evP_zero]; omega
  | i + 1, h => by
    have h1 := evP_le (z := z) hp i (by omega)
    have h2 := evT_le (z := z) hp (i := i) (by omega)
    rw [evP_succ (by omega)]
    omega
theorem evT_no {z : List ByteArray} {m : Mono} (h : m.vars.any (hasT z) = false) : evT z m = m.coef := by unfold evT; rw [h]; rfl
theorem evT_yes {z : List ByteArray} {m : Mono} (h : m.vars.any (hasT z) = true) : evT z m = 0 := by unfold evT; rw [h]; rfl
end Go.VC
namespace Go.VC.T
open Go Go.VC Go.Proofs Go.VC.F
set_option linter.unusedSimpArgs false
set_option linter.unusedVariables false
set_option linter.defProp false
set_option maxRecDepth 100000
set_option maxHeartbeats 2000000
def fc113 := (And.intro (And.intro (And.intro (And.intro sz4 ag4) (And.intro zv4 un4)) (And.intro (And.intro sz9 ag9) (And.intro zv9 un9))) (And.intro (And.intro (And.intro sz38 ag38) (And.intro zv38 sb38)) (And.intro (And.intro un38 el38) (And.intro ap38 okf114))))
theorem evalPoly1_ok (z : List ByteArray) (hz : z.length ≤ 2^48) (v : ByteArray) : FnS Try.prog 113 [] [sT v, .c (.im (.pt [slI eS z]))] [] (bT (hasT z v)) := by
  refine FnS.go [0, 1, 3] [] Try.func113 rfl (fun kt kz => ?_)
  have fcx := fc113
  simp only [Try.f113]
  refine Run (cast_succ) ?_; repeat' (first | (with_reducible exact True.intro) | (with_reducible refine Lf.mk ?_ ?_) | (with_reducible intro hb))
  refine Cal (cast_succ) (slHasS_ok z v hz) ?_
  refine Run (cast_succ) ?_; repeat' (first | (with_reducible exact True.intro) | (with_reducible refine Lf.mk ?_ ?_) | (with_reducible intro hb))
  rfl
def fc37 := (And.intro (And.intro (And.intro (And.intro (And.intro sz3 ag3) (And.intro zv3 un3)) (And.intro (And.intro sz4 ag4) (And.intro zv4 (And.intro un4 sz22)))) (And.intro (And.intro (And.intro ag22 zv22) (And.intro sb22 (And.intro un22 el22))) (And.intro (And.intro ap22 sz24) (And.intro ag24 (And.intro zv24 fl24_0))))) (And.intro (And.intro (And.intro (And.intro pl24 sz28) (And.intro ag28 (And.intro zv28 sz38))) (And.intro (And.intro ag38 zv38) (And.intro sb38 (And.intro un38 el38)))) (And.intro (And.intro (And.intro ap38 sz149) (And.intro ag149 (And.intro zv149 fl149_0))) (And.intro (And.intro fl149_1 pl149) (And.intro okf111 (And.intro okf112 okf113))))))
theorem implEvalPoly_ok (l : List Mono) (h : okPoly (2^20) l) (z : List ByteArray) (hz : okLs (2^20) okS z) : FnS Try.prog 37 [] [agT (ePoly l), slT eS z] [] (iT (if PolyOk l then evP z l else 0)) := by
  refine FnS.go [0, 1, 2, 3, 4, 5, 7, 10, 12, 13, 14, 15, 22] [] Try.func37 rfl (fun kt kz => ?_)
  have fcx := fc37
  simp only [Try.f37]
  have ho := okPoly_iff.1 h
  have hl := ho.1
  have hzl := hz.1
  refine Run (@ePoly_eta) ?_; repeat' (first | (with_reducible exact True.intro) | (with_reducible refine Lf.mk ?_ ?_) | (with_reducible intro hb))
  refine Cal (@ePoly_eta) (implIsPoly_ok l h) ?_
  by_cases hp : PolyOk l
  · have hd := decide_eq_true hp
    have e0 : (if PolyOk l then evP z l else 0) = evP z l := if_pos hp
    refine Run ((And.intro @ePoly_eta @hd)) ?_; repeat' (first | (with_reducible exact True.intro) | (with_reducible refine Lf.mk ?_ ?_) | (with_reducible intro hb))
    refine Trn (α := Nat) [5, 7, 14, 15, 16, 17, 18, 19, 20, 21, 22, 23, 24, 25, 26, 27] (fun i => [(14, iT i), (5, iT (evP z (l.take i)))]) (fun i => [(4, .box 24 ((ePoly l).map .im)), (6, .box 38 [.im (slI eS z)])]) (fun i => i ≤ l.length) (fun i => l.length - i) (0) (Nat.zero_le _) ((And.intro @ePoly_eta (evP_zero (z := z) (l := l)))) ?_; intro lx hI; obtain i := lx; (try simp only [List.nil_append, List.cons_append] at hI ⊢)
    have hb1 := evP_le (z := z) hp lx hI
    have hl2 := hp.2
    by_cases hlt : lx < l.length
    · have hb2 := evT_le (z := z) hp hlt
      have hb3 := evP_succ (z := z) hlt
      have hvl := (okMono_iff.1 (ho.2 _ (List.getElem_mem hlt))).2.1
      refine Run ((And.intro @ePoly_eta (And.intro @eMono_eta @hlt))) ?_; repeat' (first | (with_reducible exact True.intro) | (with_reducible refine Lf.mk ?_ ?_) | (with_reducible intro hb))
      refine Cal (@eMono_eta) (slHasFS_ok 113 (by decide +kernel) (.pt [slI eS z]) (hasT z) l[lx].vars (by omega) (fun x hx => evalPoly1_ok z (by omega) x)) ?_
      refine Run ((And.intro @ePoly_eta @eMono_eta)) ?_; repeat' (first | (with_reducible exact True.intro) | (with_reducible refine Lf.mk ?_ ?_) | (with_reducible intro hb))
      · have e1 : evP z (l.take lx) + l[lx].coef = evP z (l.take (lx + 1)) := by rw [hb3, evT_no hb]
        exact Nxt ((And.intro @ePoly_eta @e1)) (lx + 1) (by omega) (by first | omega | (simp; omega))
      · have e1 : evP z (l.take lx) = evP z (l.take (lx + 1)) := by rw [hb3, evT_yes hb]; omega
        exact Nxt ((And.intro @ePoly_eta @e1)) (lx + 1) (by omega) (by first | omega | (simp; omega))
    · have e1 := evP_all (z := z) (l := l) (i := lx) (by omega)
      refine Run ((And.intro (And.intro @ePoly_eta @hlt) (And.intro @e1 @e0))) ?_; repeat' (first | (with_reducible exact True.intro) | (with_reducible refine Lf.mk ?_ ?_) | (with_reducible intro hb))
  · have hd := decide_eq_false hp
    have e0 : (if PolyOk l then evP z l else 0) = 0 := if_neg hp
    refine Run ((And.intro @ePoly_eta (And.intro @hd @e0))) ?_; repeat' (first | (with_reducible exact True.intro) | (with_reducible refine Lf.mk ?_ ?_) | (with_reducible intro hb))
def fc34 := (And.intro (And.intro (And.intro (And.intro (And.intro sz3 ag3) (And.intro zv3 un3)) (And.intro (And.intro sz4 ag4) (And.intro zv4 (And.intro un4 sz9)))) (And.intro (And.intro (And.intro ag9 zv9) (And.intro un9 (And.intro sz22 ag22))) (And.intro (And.intro zv22 sb22) (And.intro un22 (And.intro el22 ap22))))) (And.intro (And.intro (And.intro (And.intro sz24 ag24) (And.intro zv24 (And.intro fl24_0 pl24))) (And.intro (And.intro sz38 ag38) (And.intro zv38 (And.intro sb38 un38)))) (And.intro (And.intro (And.intro el38 ap38) (And.intro sz149 (And.intro ag149 zv149))) (And.intro (And.intro fl149_0 fl149_1) (And.intro pl149 (And.intro okf108 okf109))))))
theorem specEvalPoly_ok (l : List Mono) (h : okPoly (2^20) l) (z : List ByteArray) (hz : okLs (2^20) okS z) : FnS Try.prog 34 [] [agT (ePoly l), slT eS z] [] (iT (if PolyOk l then evP z l else 0)) := by
  refine FnS.go [0, 1, 2, 4, 5, 6, 7, 8, 17, 34, 48] [] Try.func34 rfl (fun kt kz => ?_)
  have fcx := fc34
  simp only [Try.f34]
  have ho := okPoly_iff.1 h
  have hl := ho.1
  have hzl := hz.1
  refine Run (@ePoly_eta) ?_; repeat' (first | (with_reducible exact True.intro) | (with_reducible refine Lf.mk ?_ ?_) | (with_reducible intro hb))
  refine Trn (α := Nat) [5, 6, 7, 8, 9, 10, 11, 12, 13, 14, 15, 16, 17, 18, 19, 20, 21, 22, 23, 24, 25, 26, 27, 28, 29, 30, 31, 32, 33, 34, 35, 36, 37, 38, 39, 40, 41, 42, 43, 44, 45, 46, 47, 48, 49, 50, 51] (fun i => [(6, iT i), (5, iT (evP z (l.take i)))]) (fun i => [(4, .box 24 ((ePoly l).map .im))]) (fun i => i ≤ l.length ∧ (0 < i → PolyOk l)) (fun i => l.length - i) (0) (⟨Nat.zero_le _, fun h => by omega⟩) ((And.intro @ePoly_eta (evP_zero (z := z) (l := l)))) ?_; intro lx hI; obtain i := lx; (try simp only [List.nil_append, List.cons_append] at hI ⊢)
  by_cases hlt : lx < l.length
  · refine Run ((And.intro @ePoly_eta @hlt)) ?_; repeat' (first | (with_reducible exact True.intro) | (with_reducible refine Lf.mk ?_ ?_) | (with_reducible intro hb))
    refine Cal (@ePoly_eta) (specIsPoly_ok l h) ?_
    by_cases hp : PolyOk l
    · have hd := decide_eq_true hp
      have hb1 := evP_le (z := z) hp lx (by omega)
      have hl2 := hp.2
      have hb2 := evT_le (z := z) hp hlt
      have hb3 := evP_succ (z := z) hlt
      have hvl := (okMono_iff.1 (ho.2 _ (List.getElem_mem hlt))).2.1
      refine Run ((And.intro (And.intro @ePoly_eta @eMono_eta) (And.intro @hd @hlt))) ?_; repeat' (first | (with_reducible exact True.intro) | (with_reducible refine Lf.mk ?_ ?_) | (with_reducible intro hb))
      refine Trn (α := Nat) [7, 8, 26, 27, 28, 29, 30, 31, 32, 33, 34, 35, 36, 37, 38, 39, 40, 41, 42, 43, 44, 45, 46, 47, 48] (fun j => [(8, iT j), (7, iT (if (l[lx].vars.take j).any (hasT z) then 0 else l[lx].coef))]) (fun j => [(4, .box 24 ((ePoly l).map .im))]) (fun j => j ≤ l[lx].vars.length) (fun j => l[lx].vars.length - j) (0) (Nat.zero_le _) ((And.intro @ePoly_eta (show (if (l[lx].vars.take 0).any (hasT z) then 0 else l[lx].coef) = l[lx].coef by simp))) ?_; intro ly hJ; obtain j := ly; (try simp only [List.nil_append, List.cons_append] at hJ ⊢)
      by_cases hlj : ly < l[lx].vars.length
      · refine Run ((And.intro (And.intro @ePoly_eta @eMono_eta) (And.intro @hlt (And.intro @hlj @eS.eq_1)))) ?_; repeat' (first | (with_reducible exact True.intro) | (with_reducible refine Lf.mk ?_ ?_) | (with_reducible intro hb))
        refine Cal (cast_succ) (indexOf_ok z l[lx].vars[ly] (by omega)) ?_
        refine Run ((And.intro @ePoly_eta (idx_ge (p := fun x => decide (x = l[lx].vars[ly])) (l := z)))) ?_; repeat' (first | (with_reducible exact True.intro) | (with_reducible refine Lf.mk ?_ ?_) | (with_reducible intro hb))
        · have e1 : (if (l[lx].vars.take (ly + 1)).any (hasT z) then 0 else l[lx].coef) = 0 := if_pos (by rw [take_at hlj, List.any_append]; simp [hasT]; right; simpa using hb)
          exact Nxt ((And.intro @ePoly_eta @e1)) (ly + 1) (by omega) (by first | omega | (simp; omega))
        · have e1 : (if (l[lx].vars.take (ly + 1)).any (hasT z) then 0 else l[lx].coef) = (if (l[lx].vars.take ly).any (hasT z) then 0 else l[lx].coef) := by
            have : (l[lx].vars.take (ly + 1)).any (hasT z) = (l[lx].vars.take ly).any (hasT z) := by
              rw [take_at hlj, List.any_append, List.any_cons, List.any_nil, show hasT z l[lx].vars[ly] = false from hb]; simp
            rw [this]
          exact Nxt ((And.intro @ePoly_eta @e1)) (ly + 1) (by omega) (by first | omega | (simp; omega))
      · have e2 : (if (l[lx].vars.take ly).any (hasT z) then 0 else l[lx].coef) = evT z l[lx] := by rw [List.take_of_length_le (by omega)]; rfl
        have e1 : evP z (l.take lx) + evT z l[lx] = evP z (l.take (lx + 1)) := hb3.symm
        refine Run ((And.intro (And.intro @ePoly_eta @eMono_eta) (And.intro @hlt (And.intro @hlj @e2)))) ?_; repeat' (first | (with_reducible exact True.intro) | (with_reducible refine Lf.mk ?_ ?_) | (with_reducible intro hb))
        exact Nxt ((And.intro @ePoly_eta @e1)) (lx + 1) (⟨by omega, fun _ => hp⟩) (by first | omega | (simp; omega))
    · have hd := decide_eq_false hp
      have h0 : lx = 0 := by
        rcases Nat.eq_zero_or_pos lx with h | h
        · exact h
        · exact absurd (hI.2 h) hp
      subst h0
      have e0 : (if PolyOk l then evP z l else 0) = 0 := if_neg hp
      refine Run ((And.intro (And.intro @ePoly_eta @hd) (And.intro @e0 (show evP z [] = 0 by simp [evP])))) ?_; repeat' (first | (with_reducible exact True.intro) | (with_reducible refine Lf.mk ?_ ?_) | (with_reducible intro hb))
  · have e0 : evP z (l.take lx) = (if PolyOk l then evP z l else 0) := by
      rw [evP_all (by omega)]
      rcases Nat.eq_zero_or_pos l.length with h | h
      · have : l = [] := List.eq_nil_of_length_eq_zero h
        subst this
        split <;> simp [evP]
      · rw [if_pos (hI.2 (by omega))]
    refine Run ((And.intro @ePoly_eta (And.intro @hlt @e0))) ?_; repeat' (first | (with_reducible exact True.intro) | (with_reducible refine Lf.mk ?_ ?_) | (with_reducible intro hb))
def fc6 := (And.intro (And.intro (And.intro (And.intro (And.intro sz3 ag3) (And.intro zv3 un3)) (And.intro (And.intro sz4 ag4) (And.intro zv4 un4))) (And.intro (And.intro (And.intro sz24 ag24) (And.intro zv24 fl24_0)) (And.intro (And.intro pl24 sz37) (And.intro ag37 (And.intro zv37 fl37_0))))) (And.intro (And.intro (And.intro (And.intro pl37 sz38) (And.intro ag38 zv38)) (And.intro (And.intro sb38 un38) (And.intro el38 (And.intro ap38 okf22)))) (And.intro (And.intro (And.intro okf32 okf33) (And.intro okf34 okf35)) (And.intro (And.intro okf36 okf37) (And.intro okf38 (And.intro sz22 sz35))))))
theorem evalPoly_law (a : List Mono) (z : List ByteArray) (ha : okPoly (2^48) a) (hz : okLs (2^48) okS z) : FnS Try.prog 6 [] [agT (ePoly a), slT eS z] [] (bT true) := by
  refine FnS.go [0, 1, 2, 4, 5, 6, 7, 8, 9, 14, 19, 34, 39, 44] [] Try.func6 rfl (fun kt kz => ?_)
  have fcx := fc6
  simp only [Try.f6]
  refine Run (@ePoly_eta) ?_; repeat' (first | (with_reducible exact True.intro) | (with_reducible refine Lf.mk ?_ ?_) | (with_reducible intro hb))
  refine Cal (@ePoly_eta) (szPoly_ok a ha 1048576 ⟨by omega, by omega⟩) ?_
  refine Run (@ePoly_eta) ?_; repeat' (first | (with_reducible exact True.intro) | (with_reducible refine Lf.mk ?_ ?_) | (with_reducible intro hb))
  have h1 := szR_spec (zPoly a) 1048576
  have h2 := szR_spec (zSL z) (szR (zPoly a) 1048576)
  have ha' : okPoly (2^20) a := okPoly_down ha (by omega)
  refine Cal (@ePoly_eta) (szStringS_ok z hz (szR (zPoly a) 1048576) ⟨by omega, by omega⟩) ?_
  refine Run (@ePoly_eta) ?_; repeat' (first | (with_reducible exact True.intro) | (with_reducible refine Lf.mk ?_ ?_) | (with_reducible intro hb))
  have ez : zSL z = zL zS z := rfl
  have hz' : okLs (2^20) okS z := ⟨by have := zL_len (z := zS) (l := z); omega, fun s hs => by have := zL_mem (z := zS) hs; show s.size ≤ 2^20; have : s.size = zS s := rfl; omega⟩
  have hta := toPoly_ok a ha'
  have htz := toStringS_rf z hz'
  refine CalI (@ePoly_eta) (hta) ?_
  refine Run (@ePoly_eta) ?_; repeat' (first | (with_reducible exact True.intro) | (with_reducible refine Lf.mk ?_ ?_) | (with_reducible intro hb))
  refine CalI (@ePoly_eta) (htz) ?_
  refine Run (@ePoly_eta) ?_; repeat' (first | (with_reducible exact True.intro) | (with_reducible refine Lf.mk ?_ ?_) | (with_reducible intro hb))
  refine Cal (@ePoly_eta) (specEvalPoly_ok a ha' z hz') ?_
  refine Run (@ePoly_eta) ?_; repeat' (first | (with_reducible exact True.intro) | (with_reducible refine Lf.mk ?_ ?_) | (with_reducible intro hb))
  refine CalI (@ePoly_eta) (hta) ?_
  refine Run (@ePoly_eta) ?_; repeat' (first | (with_reducible exact True.intro) | (with_reducible refine Lf.mk ?_ ?_) | (with_reducible intro hb))
  refine CalI (@ePoly_eta) (htz) ?_
  refine Run (@ePoly_eta) ?_; repeat' (first | (with_reducible exact True.intro) | (with_reducible refine Lf.mk ?_ ?_) | (with_reducible intro hb))
  refine Cal (@ePoly_eta) (implEvalPoly_ok a ha' z hz') ?_
  refine Run (@ePoly_eta) ?_; repeat' (first | (with_reducible exact True.intro) | (with_reducible refine Lf.mk ?_ ?_) | (with_reducible intro hb))
  refine CalI (@ePoly_eta) (hta) ?_
  refine Run (@ePoly_eta) ?_; repeat' (first | (with_reducible exact True.intro) | (with_reducible refine Lf.mk ?_ ?_) | (with_reducible intro hb))
  refine Cal (@ePoly_eta) (eqPoly_ok a ha') ?_
  refine Run (@ePoly_eta) ?_; repeat' (first | (with_reducible exact True.intro) | (with_reducible refine Lf.mk ?_ ?_) | (with_reducible intro hb))
  refine CalI (@ePoly_eta) (htz) ?_
  refine Run (@ePoly_eta) ?_; repeat' (first | (with_reducible exact True.intro) | (with_reducible refine Lf.mk ?_ ?_) | (with_reducible intro hb))
  refine Cal (@ePoly_eta) (eqStringS_rf z hz') ?_
  refine Run (@ePoly_eta) ?_; repeat' (first | (with_reducible exact True.intro) | (with_reducible refine Lf.mk ?_ ?_) | (with_reducible intro hb))

end Go.VC.T
