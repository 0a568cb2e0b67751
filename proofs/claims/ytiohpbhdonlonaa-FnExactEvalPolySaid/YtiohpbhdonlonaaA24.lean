/- Polynomials that are right. -/
import Derived.Test.YtiohpbhdonlonaaA23
import Derived.Test.YtiohpbhdonlonaaA30
import Derived.Test.YtiohpbhdonlonaaSPoly
namespace Go.VC
open Go
def MonoOk (m : Mono) : Prop := (1 ≤ m.coef ∧ m.coef ≤ 1000000) ∧ m.vars.length ≤ 8 ∧ m.vars.any (fun x => decide (x = ⟨#[]⟩)) = false ∧ SortedS m.vars
noncomputable instance (m : Mono) : Decidable (MonoOk m) := Classical.propDecidable _
/-- Up to place i. -/
def PolyTo (l : List Mono) (i : Nat) : Prop := (∀ m ∈ l.take i, MonoOk m) ∧ ∀ k, (h : k + 1 < l.length) → k + 1 < i → cmpL (l[k]'(by omega)).vars l[k + 1].vars < 0
def PolyOk (l : List Mono) : Prop := PolyTo l l.length ∧ l.length ≤ 200
noncomputable instance (l : List Mono) : Decidable (PolyOk l) := Classical.propDecidable _
theorem polyTo_zero {l : List Mono} : PolyTo l 0 := ⟨fun m hm => by simp at hm, fun k h hk => by omega⟩
theorem polyTo_succ {l : List Mono} {i : Nat} (h : i < l.length) (ht : PolyTo l i) (hm : MonoOk l[i]) (hc : 0 < i → cmpL (l[i - 1]'(by omega)).vars l[i].vars < 0) : PolyTo l (i + 1) := by
  refine ⟨fun m hm' => ?_, fun k hk hki => ?_⟩
  · rw [take_at h, List.mem_append] at hm'
    rcases hm' with h1 | h1
    · exact ht.1 m h1
    · rw [List.mem_singleton] at h1; subst h1; exact hm
  · by_cases e : k + 1 < i
    · exact ht.2 k hk e
    · have e : i = k + 1 := by omega
      subst e
      exact hc (by omega)
theorem polyTo_at {l : List Mono} {i : Nat} (h : i < l.length) (ht : PolyTo l l.length) : MonoOk l[i] ∧ (0 < i → cmpL (l[i - 1]'(by omega)).vars l[i].vars < 0) := by
  refine ⟨ht.1 _ (by rw [List.take_length]; exact List.getElem_mem h), fun hi => ?_⟩
  have h1 := ht.2 (i - 1) (by omega) (by omega)
  have e : i - 1 + 1 = i := by omega
  simp only [e] at h1
  exact h1
theorem polyTo_all {l : List Mono} {i : Nat} (h : l.length ≤ i) (ht : PolyTo l i) : PolyTo l l.length := by
  refine ⟨fun m hm => ht.1 m (by rw [List.take_length] at hm; rw [List.take_of_length_le h]; exact hm), fun k hk hki => ht.2 k hk (by omega)⟩
end Go.VC
namespace Go.VC.T
open Go Go.VC Go.Proofs Go.VC.F
set_option linter.unusedSimpArgs false
set_option linter.unusedVariables false
set_option linter.defProp false
set_option maxRecDepth 100000
set_option maxHeartbeats 2000000
def fc200 := (And.intro (And.intro (And.intro (And.intro sz3 (And.intro ag3 zv3)) (And.intro un3 (And.intro sz4 ag4))) (And.intro (And.intro zv4 (And.intro un4 sz9)) (And.intro (And.intro ag9 zv9) (And.intro un9 sz38)))) (And.intro (And.intro (And.intro ag38 (And.intro zv38 sb38)) (And.intro (And.intro un38 el38) (And.intro ap38 sz149))) (And.intro (And.intro ag149 (And.intro zv149 fl149_0)) (And.intro (And.intro fl149_1 pl149) (And.intro okf114 okf263)))))
theorem monoOk_ok (m : Mono) (h : okMono (2^20) m) : FnS Try.prog 200 [] [agT (eMono m)] [] (bT (decide (MonoOk m))) := by
  refine FnS.go [0, 1, 2, 21] [] Try.func200 rfl (fun kt kz => ?_)
  have fcx := fc200
  simp only [Try.f200]
  have hv := (okMono_iff.1 h).2.1
  by_cases h1 : m.coef < 1
  · refine Run ((And.intro @eMono_eta @h1)) ?_; repeat' (first | (with_reducible exact True.intro) | (with_reducible refine Lf.mk ?_ ?_) | (with_reducible intro hb))
    rw [decide_eq_false fun hm => by have := hm.1; omega]
  · by_cases h2 : 1000000 < m.coef
    · refine Run ((And.intro @eMono_eta (And.intro @h1 @h2))) ?_; repeat' (first | (with_reducible exact True.intro) | (with_reducible refine Lf.mk ?_ ?_) | (with_reducible intro hb))
      rw [decide_eq_false fun hm => by have := hm.1; omega]
    · by_cases h3 : 8 < m.vars.length
      · have h3z : (8 : Int) < (m.vars.length : Int) := by omega
        refine Run ((And.intro (And.intro @eMono_eta @h1) (And.intro @h2 @h3z))) ?_; repeat' (first | (with_reducible exact True.intro) | (with_reducible refine Lf.mk ?_ ?_) | (with_reducible intro hb))
        rw [decide_eq_false fun hm => by have := hm.2.1; omega]
      · have h3z : ¬ (8 : Int) < (m.vars.length : Int) := by omega
        refine Run ((And.intro (And.intro @eMono_eta @h1) (And.intro @h2 @h3z))) ?_; repeat' (first | (with_reducible exact True.intro) | (with_reducible refine Lf.mk ?_ ?_) | (with_reducible intro hb))
        refine Cal (cast_succ) (slHasS_ok m.vars ⟨#[]⟩ (by omega)) ?_
        refine Run (@eMono_eta) ?_; repeat' (first | (with_reducible exact True.intro) | (with_reducible refine Lf.mk ?_ ?_) | (with_reducible intro hb))
        · rw [decide_eq_false fun hm => by have := hm.2.2.1; rw [hb] at this; cases this]
        · refine Cal (cast_succ) (slSortedS_ok m.vars (by omega)) ?_
          refine Run (cast_succ) ?_; repeat' (first | (with_reducible exact True.intro) | (with_reducible refine Lf.mk ?_ ?_) | (with_reducible intro hb))
          rw [decide_eq_decide.2 (show SortedS m.vars ↔ MonoOk m from ⟨fun hs => ⟨⟨by omega, by omega⟩, by omega, hb, hs⟩, fun hm => hm.2.2.2⟩)]
def fc111 := (And.intro (And.intro (And.intro (And.intro (And.intro sz3 ag3) (And.intro zv3 un3)) (And.intro (And.intro sz4 ag4) (And.intro zv4 un4))) (And.intro (And.intro (And.intro sz22 ag22) (And.intro zv22 sb22)) (And.intro (And.intro un22 el22) (And.intro ap22 (And.intro sz24 ag24))))) (And.intro (And.intro (And.intro (And.intro zv24 fl24_0) (And.intro pl24 sz38)) (And.intro (And.intro ag38 zv38) (And.intro sb38 (And.intro un38 el38)))) (And.intro (And.intro (And.intro ap38 sz149) (And.intro ag149 zv149)) (And.intro (And.intro fl149_0 fl149_1) (And.intro pl149 (And.intro okf200 okf201))))))
theorem implIsPoly_ok (l : List Mono) (h : okPoly (2^20) l) : FnS Try.prog 111 [] [agT (ePoly l)] [] (bT (decide (PolyOk l))) := by
  refine FnS.go [0, 1, 2, 3, 4, 6, 7, 8, 9, 32] [] Try.func111 rfl (fun kt kz => ?_)
  have fcx := fc111
  simp only [Try.f111]
  have ho := okPoly_iff.1 h
  have hl := ho.1
  refine Run (@ePoly_eta) ?_; repeat' (first | (with_reducible exact True.intro) | (with_reducible refine Lf.mk ?_ ?_) | (with_reducible intro hb))
  refine Trn (α := Nat) [2, 3, 4, 8, 9, 10, 11, 12, 13, 14, 15, 16, 17, 18, 19, 20, 21, 22, 23, 24, 25, 26, 27, 28, 29, 30, 31, 32, 33] (fun i => [(8, iT i)]) (fun i => [(2, .box 24 ((ePoly l).map .im))]) (fun i => i ≤ l.length ∧ PolyTo l i) (fun i => l.length - i) (0) (⟨Nat.zero_le _, polyTo_zero⟩) (@ePoly_eta) ?_; intro lx hI; obtain i := lx; (try simp only [List.nil_append, List.cons_append] at hI ⊢)
  by_cases hlt : lx < l.length
  · have hm := okMono_iff.1 (ho.2 _ (List.getElem_mem hlt))
    have hvl := hm.2.1
    refine Run ((And.intro @ePoly_eta (And.intro @eMono_eta @hlt))) ?_; repeat' (first | (with_reducible exact True.intro) | (with_reducible refine Lf.mk ?_ ?_) | (with_reducible intro hb))
    refine Cal (@eMono_eta) (monoOk_ok l[lx] (ho.2 _ (List.getElem_mem hlt))) ?_
    by_cases hmo : MonoOk l[lx]
    · have hmd := decide_eq_true hmo
      by_cases hz : 0 < lx
      · have hzi : (0 : Int) < (lx : Int) := by omega
        have hl1 : lx - 1 < l.length := by omega
        have hv1 := (okMono_iff.1 (ho.2 _ (List.getElem_mem hl1))).2.1
        refine Run ((And.intro (And.intro @ePoly_eta @eMono_eta) (And.intro @hmd @hzi))) ?_; repeat' (first | (with_reducible exact True.intro) | (with_reducible refine Lf.mk ?_ ?_) | (with_reducible intro hb))
        refine Cal (@eMono_eta) (slicesCompare_ok l[lx - 1].vars l[lx].vars (by omega)) ?_
        refine Run ((And.intro @ePoly_eta @eMono_eta)) ?_; repeat' (first | (with_reducible exact True.intro) | (with_reducible refine Lf.mk ?_ ?_) | (with_reducible intro hb))
        · rw [decide_eq_false fun h => by have := (polyTo_at hlt h.1).2 hz; omega]
        · exact Nxt (@ePoly_eta) (lx + 1) (⟨by omega, polyTo_succ hlt hI.2 hmo fun _ => by omega⟩) (by first | omega | (simp; omega))
      · have hzi : ¬ (0 : Int) < (lx : Int) := by omega
        refine Run ((And.intro (And.intro @ePoly_eta @eMono_eta) (And.intro @hmd @hzi))) ?_; repeat' (first | (with_reducible exact True.intro) | (with_reducible refine Lf.mk ?_ ?_) | (with_reducible intro hb))
        exact Nxt (@ePoly_eta) (lx + 1) (⟨by omega, polyTo_succ hlt hI.2 hmo fun h => absurd h hz⟩) (by first | omega | (simp; omega))
    · have hmd := decide_eq_false hmo
      refine Run ((And.intro @ePoly_eta (And.intro @eMono_eta @hmd))) ?_; repeat' (first | (with_reducible exact True.intro) | (with_reducible refine Lf.mk ?_ ?_) | (with_reducible intro hb))
      rw [decide_eq_false fun h => hmo (polyTo_at hlt h.1).1]
  · have ha := polyTo_all (by omega) hI.2
    have e : decide ((l.length : Int) ≤ 200) = decide (PolyOk l) := decide_eq_decide.2 ⟨fun h => ⟨ha, by omega⟩, fun h => by have := h.2; omega⟩
    refine Run ((And.intro @ePoly_eta (And.intro @hlt @e))) ?_; repeat' (first | (with_reducible exact True.intro) | (with_reducible refine Lf.mk ?_ ?_) | (with_reducible intro hb))
def fc197 := (And.intro (And.intro (And.intro (And.intro sz3 (And.intro ag3 zv3)) (And.intro un3 (And.intro sz4 ag4))) (And.intro (And.intro zv4 (And.intro un4 sz9)) (And.intro (And.intro ag9 zv9) (And.intro un9 sz38)))) (And.intro (And.intro (And.intro ag38 (And.intro zv38 sb38)) (And.intro un38 (And.intro el38 ap38))) (And.intro (And.intro sz149 (And.intro ag149 zv149)) (And.intro (And.intro fl149_0 fl149_1) (And.intro pl149 okf98)))))
theorem l29Mono_ok (m : Mono) (h : okMono (2^20) m) : FnS Try.prog 197 [] [agT (eMono m)] [] (bT (decide (MonoOk m))) := by
  refine FnS.go [0, 1, 2, 3, 8, 34] [] Try.func197 rfl (fun kt kz => ?_)
  have fcx := fc197
  simp only [Try.f197]
  have hv := (okMono_iff.1 h).2.1
  refine Run (@eMono_eta) ?_; repeat' (first | (with_reducible exact True.intro) | (with_reducible refine Lf.mk ?_ ?_) | (with_reducible intro hb))
  refine Trn (α := Nat) [2, 3, 4, 5, 6, 7, 8, 9, 10, 11, 12, 13, 14, 15, 16, 17, 18, 19, 20, 21, 22, 23, 24, 25, 26, 27, 28, 29, 30, 31, 32, 33, 34] (fun i => [(3, iT i)]) (fun i => [(2, .box 149 ((eMono m).map .im))]) (fun i => i ≤ m.vars.length ∧ (m.vars.take i).any (fun x => decide (x = ⟨#[]⟩)) = false ∧ ∀ k, (h : k + 1 < m.vars.length) → k + 1 < i → sLt m.vars[k + 1] (m.vars[k]'(by omega)) = false) (fun i => m.vars.length - i) (0) (⟨Nat.zero_le _, rfl, fun k h hk => by omega⟩) (@eMono_eta) ?_; intro lx hI; obtain i := lx; (try simp only [List.nil_append, List.cons_append] at hI ⊢)
  by_cases hlt : lx < m.vars.length
  · have hstep : ∀ (h1 : ¬ m.vars[lx] = ⟨#[]⟩) (h2 : 0 < lx → sLt m.vars[lx] (m.vars[lx - 1]'(by omega)) = false), (m.vars.take (lx + 1)).any (fun x => decide (x = ⟨#[]⟩)) = false ∧ ∀ k, (h : k + 1 < m.vars.length) → k + 1 < lx + 1 → sLt m.vars[k + 1] (m.vars[k]'(by omega)) = false := fun h1 h2 => by
      refine ⟨any_take hlt hI.2.1 (by simpa using h1), fun k hk hki => ?_⟩
      by_cases e : k + 1 < lx
      · exact hI.2.2 k hk e
      · have e : lx = k + 1 := by omega
        subst e
        exact h2 (by omega)
    by_cases he : m.vars[lx] = ⟨#[]⟩
    · refine Run ((And.intro (And.intro @eMono_eta @hlt) (And.intro @eS.eq_1 @he))) ?_; repeat' (first | (with_reducible exact True.intro) | (with_reducible refine Lf.mk ?_ ?_) | (with_reducible intro hb))
      rw [decide_eq_false fun hm => by have := any_at (p := fun x => decide (x = ⟨#[]⟩)) hlt (by simpa using he); rw [hm.2.2.1] at this; cases this]
    · by_cases hz : 0 < lx
      · have hzi : (0 : Int) < (lx : Int) := by omega
        have hl1 : lx - 1 < m.vars.length := by omega
        refine Run ((And.intro (And.intro @eMono_eta @hlt) (And.intro @eS.eq_1 (And.intro @he @hzi)))) ?_; repeat' (first | (with_reducible exact True.intro) | (with_reducible refine Lf.mk ?_ ?_) | (with_reducible intro hb))
        · rw [decide_eq_false fun hm => by
            have h1 := hm.2.2.2 (lx - 1) (by omega)
            have e : lx - 1 + 1 = lx := by omega
            simp only [e] at h1
            rw [sLt_tri hb.1 hb.2] at h1; cases h1]
        · exact Nxt (@eMono_eta) (lx + 1) (⟨by omega, hstep he fun _ => by
            rcases hb with h | h
            · exact sLt_asymm h
            · rw [h]; exact sLt_irrefl _⟩) (by first | omega | (simp; omega))
      · have hzi : ¬ (0 : Int) < (lx : Int) := by omega
        refine Run ((And.intro (And.intro @eMono_eta @hlt) (And.intro @eS.eq_1 (And.intro @he @hzi)))) ?_; repeat' (first | (with_reducible exact True.intro) | (with_reducible refine Lf.mk ?_ ?_) | (with_reducible intro hb))
        exact Nxt (@eMono_eta) (lx + 1) (⟨by omega, hstep he fun h => absurd h hz⟩) (by first | omega | (simp; omega))
  · have ha := any_all (by omega) hI.2.1
    have hs : SortedS m.vars := fun k hk => hI.2.2 k hk (by omega)
    have e : decide (MonoOk m) = decide ((1 ≤ m.coef ∧ m.coef ≤ 1000000) ∧ m.vars.length ≤ 8) := decide_eq_decide.2 ⟨fun h => ⟨h.1, h.2.1⟩, fun h => ⟨h.1, h.2, ha, hs⟩⟩
    rw [e]
    refine Run ((And.intro @eMono_eta @hlt)) ?_; repeat' (first | (with_reducible exact True.intro) | (with_reducible refine Lf.mk ?_ ?_) | (with_reducible intro hb))
    refine Cal (cast_succ) (l1In_ok m.coef 1 1000000) ?_
    refine Run (@eMono_eta) ?_; repeat' (first | (with_reducible exact True.intro) | (with_reducible refine Lf.mk ?_ ?_) | (with_reducible intro hb))
    · have e2 : decide ((m.vars.length : Int) ≤ 8) = decide (m.vars.length ≤ 8) := decide_eq_decide.2 (by omega)
      rw [e2]
    · rw [decide_eq_false fun h => h.1]
def fc108 := (And.intro (And.intro (And.intro (And.intro (And.intro sz3 ag3) (And.intro zv3 un3)) (And.intro (And.intro sz4 ag4) (And.intro zv4 un4))) (And.intro (And.intro (And.intro sz22 ag22) (And.intro zv22 sb22)) (And.intro (And.intro un22 el22) (And.intro ap22 (And.intro sz24 ag24))))) (And.intro (And.intro (And.intro (And.intro zv24 fl24_0) (And.intro pl24 sz38)) (And.intro (And.intro ag38 zv38) (And.intro sb38 (And.intro un38 el38)))) (And.intro (And.intro (And.intro ap38 sz149) (And.intro ag149 zv149)) (And.intro (And.intro fl149_0 fl149_1) (And.intro pl149 (And.intro okf197 okf198))))))
theorem specIsPoly_ok (l : List Mono) (h : okPoly (2^20) l) : FnS Try.prog 108 [] [agT (ePoly l)] [] (bT (decide (PolyOk l))) := by
  refine FnS.go [0, 1, 2, 3, 8, 38] [] Try.func108 rfl (fun kt kz => ?_)
  have fcx := fc108
  simp only [Try.f108]
  have ho := okPoly_iff.1 h
  have hl := ho.1
  refine Run (@ePoly_eta) ?_; repeat' (first | (with_reducible exact True.intro) | (with_reducible refine Lf.mk ?_ ?_) | (with_reducible intro hb))
  refine Trn (α := Nat) [2, 3, 4, 5, 6, 7, 8, 9, 10, 11, 12, 13, 14, 15, 16, 17, 18, 19, 20, 21, 22, 23, 24, 25, 26, 27, 28, 29, 30, 31, 32, 33, 34, 35, 36, 37, 38] (fun i => [(3, iT i)]) (fun i => [(2, .box 24 ((ePoly l).map .im))]) (fun i => i ≤ l.length ∧ PolyTo l i) (fun i => l.length - i) (0) (⟨Nat.zero_le _, polyTo_zero⟩) (@ePoly_eta) ?_; intro lx hI; obtain i := lx; (try simp only [List.nil_append, List.cons_append] at hI ⊢)
  by_cases hlt : lx < l.length
  · have hm := okMono_iff.1 (ho.2 _ (List.getElem_mem hlt))
    have hvl := hm.2.1
    refine Run ((And.intro @ePoly_eta (And.intro @eMono_eta @hlt))) ?_; repeat' (first | (with_reducible exact True.intro) | (with_reducible refine Lf.mk ?_ ?_) | (with_reducible intro hb))
    refine Cal (@eMono_eta) (l29Mono_ok l[lx] (ho.2 _ (List.getElem_mem hlt))) ?_
    by_cases hmo : MonoOk l[lx]
    · have hmd := decide_eq_true hmo
      by_cases hz : 0 < lx
      · have hzi : (0 : Int) < (lx : Int) := by omega
        have hl1 : lx - 1 < l.length := by omega
        have hv1 := (okMono_iff.1 (ho.2 _ (List.getElem_mem hl1))).2.1
        refine Run ((And.intro (And.intro @ePoly_eta @eMono_eta) (And.intro @hmd @hzi))) ?_; repeat' (first | (with_reducible exact True.intro) | (with_reducible refine Lf.mk ?_ ?_) | (with_reducible intro hb))
        refine Cal (@eMono_eta) (l5Labels_ok l[lx - 1].vars l[lx].vars (by omega) (by omega)) ?_
        refine Run ((And.intro @ePoly_eta @eMono_eta)) ?_; repeat' (first | (with_reducible exact True.intro) | (with_reducible refine Lf.mk ?_ ?_) | (with_reducible intro hb))
        · rw [decide_eq_false fun h => by have := (polyTo_at hlt h.1).2 hz; omega]
        · exact Nxt (@ePoly_eta) (lx + 1) (⟨by omega, polyTo_succ hlt hI.2 hmo fun _ => by omega⟩) (by first | omega | (simp; omega))
      · have hzi : ¬ (0 : Int) < (lx : Int) := by omega
        refine Run ((And.intro (And.intro @ePoly_eta @eMono_eta) (And.intro @hmd @hzi))) ?_; repeat' (first | (with_reducible exact True.intro) | (with_reducible refine Lf.mk ?_ ?_) | (with_reducible intro hb))
        exact Nxt (@ePoly_eta) (lx + 1) (⟨by omega, polyTo_succ hlt hI.2 hmo fun h => absurd h hz⟩) (by first | omega | (simp; omega))
    · have hmd := decide_eq_false hmo
      refine Run ((And.intro @ePoly_eta (And.intro @eMono_eta @hmd))) ?_; repeat' (first | (with_reducible exact True.intro) | (with_reducible refine Lf.mk ?_ ?_) | (with_reducible intro hb))
      rw [decide_eq_false fun h => hmo (polyTo_at hlt h.1).1]
  · have ha := polyTo_all (by omega) hI.2
    have e : decide ((l.length : Int) ≤ 200) = decide (PolyOk l) := decide_eq_decide.2 ⟨fun h => ⟨ha, by omega⟩, fun h => by have := h.2; omega⟩
    refine Run ((And.intro @ePoly_eta (And.intro @hlt @e))) ?_; repeat' (first | (with_reducible exact True.intro) | (with_reducible refine Lf.mk ?_ ?_) | (with_reducible intro hb))

end Go.VC.T
