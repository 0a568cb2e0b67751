/- Positive flat queries. -/
import Derived.Test.YtiohpbhdonlonaaA20
import Derived.Test.YtiohpbhdonlonaaSFlatQuery
namespace Go.VC
open Go
def badC (c : FC) : Bool := askT c.wh || c.cols.any askT
end Go.VC
namespace Go.VC.T
open Go Go.VC Go.Proofs Go.VC.F
set_option linter.unusedSimpArgs false
set_option linter.unusedVariables false
set_option linter.defProp false
set_option maxRecDepth 100000
set_option maxHeartbeats 2000000
def fc57 := (And.intro (And.intro (And.intro (And.intro (And.intro sz3 (And.intro ag3 zv3)) (And.intro un3 (And.intro sz4 ag4))) (And.intro (And.intro zv4 (And.intro un4 sz75)) (And.intro (And.intro ag75 zv75) (And.intro sb75 un75)))) (And.intro (And.intro (And.intro el75 (And.intro ap75 sz77)) (And.intro ag77 (And.intro zv77 fl77_0))) (And.intro (And.intro fl77_1 (And.intro fl77_2 fl77_3)) (And.intro (And.intro fl77_4 fl77_5) (And.intro pl77 sz93))))) (And.intro (And.intro (And.intro (And.intro ag93 (And.intro zv93 sb93)) (And.intro un93 (And.intro el93 ap93))) (And.intro (And.intro sz95 (And.intro ag95 zv95)) (And.intro (And.intro fl95_0 fl95_1) (And.intro pl95 sz197)))) (And.intro (And.intro (And.intro ag197 (And.intro zv197 fl197_0)) (And.intro (And.intro fl197_1 fl197_2) (And.intro fl197_3 fl197_4))) (And.intro (And.intro fl197_5 (And.intro pl197 okf138)) (And.intro (And.intro sz9 sz74) (And.intro sz38 sz195))))))
theorem specPosFlat_ok (f : FQ) (hf : okFQ (2^20) f) : FnS Try.prog 57 [] [agT (eFQ f)] [] (bT (!f.comps.any badC)) := by
  refine FnS.go [0, 1, 2, 3, 4, 9, 18, 27, 39] [] Try.func57 rfl (fun kt kz => ?_)
  have fcx := fc57
  simp only [Try.f57]
  have ho := (okFQ_iff.1 hf).2
  have hl := ho.1
  refine Run (@eFQ_eta) ?_; repeat' (first | (with_reducible exact True.intro) | (with_reducible refine Lf.mk ?_ ?_) | (with_reducible intro hb))
  refine Trn (α := Nat) [2, 3, 4, 5, 6, 7, 8, 9, 10, 11, 12, 13, 14, 15, 16, 17, 18, 19, 20, 21, 22, 23, 24, 25, 26, 27, 28, 29, 30, 31, 32, 33, 34, 35, 36, 37, 38, 39] (fun i => [(3, iT i)]) (fun i => [(2, .box 95 ((eFQ f).map .im))]) (fun i => i ≤ f.comps.length ∧ (f.comps.take i).any badC = false) (fun i => f.comps.length - i) (0) (⟨Nat.zero_le _, rfl⟩) (@eFQ_eta) ?_; intro lx hI; obtain i := lx; (try simp only [List.nil_append, List.cons_append] at hI ⊢)
  by_cases hlt : lx < f.comps.length
  · have hc := okFC_iff.1 (ho.2 _ (List.getElem_mem hlt))
    have hw := hc.2.2.2.2.1
    have hcl := hc.2.2.2.2.2.1
    refine Run ((And.intro (And.intro @eFQ_eta @eFC_eta) (And.intro @eTm_eta (And.intro @eTy_eta @hlt)))) ?_; repeat' (first | (with_reducible exact True.intro) | (with_reducible refine Lf.mk ?_ ?_) | (with_reducible intro hb))
    refine Cal ((And.intro @eFC_eta (And.intro @eTm_eta @eTy_eta))) (specAsks_ok f.comps[lx].wh hw) ?_
    refine Run ((And.intro @eFQ_eta @eFC_eta)) ?_; repeat' (first | (with_reducible exact True.intro) | (with_reducible refine Lf.mk ?_ ?_) | (with_reducible intro hb))
    · rw [any_at hlt (by unfold badC; rw [hb]; rfl)]; rfl
    · have hb1 := hb
      refine Trn (α := Nat) [2, 4, 19, 20, 21, 22, 23, 24, 25, 26, 27, 28, 29, 30, 31, 32, 33, 34, 35, 36, 37, 38, 39] (fun i => [(4, iT i)]) (fun i => [(2, .box 95 ((eFQ f).map .im))]) (fun i => i ≤ f.comps[lx].cols.length ∧ (f.comps[lx].cols.take i).any askT = false) (fun i => f.comps[lx].cols.length - i) (0) (⟨Nat.zero_le _, rfl⟩) (@eFQ_eta) ?_; intro ly hJ; obtain i := ly; (try simp only [List.nil_append, List.cons_append] at hJ ⊢)
      by_cases hlj : ly < f.comps[lx].cols.length
      · refine Run ((And.intro (And.intro @eFQ_eta (And.intro @eFC_eta @eTm_eta)) (And.intro @eTy_eta (And.intro @hlt @hlj)))) ?_; repeat' (first | (with_reducible exact True.intro) | (with_reducible refine Lf.mk ?_ ?_) | (with_reducible intro hb))
        refine Cal ((And.intro @eTm_eta @eTy_eta)) (specAsks_ok f.comps[lx].cols[ly] (hc.2.2.2.2.2.2 _ (List.getElem_mem hlj))) ?_
        refine Run ((And.intro @eFQ_eta @eFC_eta)) ?_; repeat' (first | (with_reducible exact True.intro) | (with_reducible refine Lf.mk ?_ ?_) | (with_reducible intro hb))
        · rw [any_at hlt (by unfold badC; rw [any_at hlj hb]; simp)]; rfl
        · exact Nxt (@eFQ_eta) (ly + 1) (⟨by omega, any_take hlj hJ.2 hb⟩) (by first | omega | (simp; omega))
      · have ha := any_all (by omega) hJ.2
        refine Run ((And.intro (And.intro @eFQ_eta (And.intro @eFC_eta @eTm_eta)) (And.intro @eTy_eta (And.intro @hlt @hlj)))) ?_; repeat' (first | (with_reducible exact True.intro) | (with_reducible refine Lf.mk ?_ ?_) | (with_reducible intro hb))
        exact Nxt (@eFQ_eta) (lx + 1) (⟨by omega, any_take hlt hI.2 (by unfold badC; rw [hb1, ha]; rfl)⟩) (by first | omega | (simp; omega))
  · have ha := any_all (by omega) hI.2
    refine Run ((And.intro @eFQ_eta @hlt)) ?_; repeat' (first | (with_reducible exact True.intro) | (with_reducible refine Lf.mk ?_ ?_) | (with_reducible intro hb))
    rw [ha]; rfl
def fc224 := (And.intro (And.intro (And.intro (And.intro sz3 (And.intro ag3 zv3)) (And.intro (And.intro un3 sz4) (And.intro ag4 zv4))) (And.intro (And.intro (And.intro un4 sz75) (And.intro ag75 zv75)) (And.intro (And.intro sb75 un75) (And.intro el75 ap75)))) (And.intro (And.intro (And.intro (And.intro sz77 ag77) (And.intro zv77 fl77_0)) (And.intro (And.intro fl77_1 fl77_2) (And.intro fl77_3 fl77_4))) (And.intro (And.intro (And.intro fl77_5 pl77) (And.intro sz194 ag194)) (And.intro (And.intro zv194 sz9) (And.intro sz74 sz38)))))
theorem slIdxTm_ok (g : Nat) (hg : fnOk Try.prog g = true) (p : Tm → Bool) (xs : List Tm) (hx : xs.length ≤ 2^48) (H : ∀ x ∈ xs, FnP Try.prog g [agT (eTm x)] (bT (p x))) : FnS Try.prog 224 [] [slT eTm xs, .c (.im (.fn g []))] [] (iT (idxI p xs)) := by
  refine FnS.go [0, 1, 4, 5, 7, 8, 9, 16] [] Try.func224 rfl (fun kt kz => ?_)
  have fcx := fc224
  simp only [Try.f224]
  refine Run (cast_succ) ?_; repeat' (first | (with_reducible exact True.intro) | (with_reducible refine Lf.mk ?_ ?_) | (with_reducible intro hb))
  refine Trn (α := Nat) [4, 5, 8, 9, 10, 11, 12, 13, 14, 15, 16, 17, 18] (fun i => [(8, iT i)]) (fun i => []) (fun i => i ≤ xs.length ∧ (xs.take i).any p = false) (fun i => xs.length - i) (0) (⟨Nat.zero_le _, rfl⟩) (cast_succ) ?_; intro lx hI; obtain i := lx; (try simp only [List.nil_append, List.cons_append] at hI ⊢)
  by_cases hlt : lx < xs.length
  · refine Run ((And.intro (And.intro @eTm_eta @eTy_eta) (And.intro @hlt @hg))) ?_; repeat' (first | (with_reducible exact True.intro) | (with_reducible refine Lf.mk ?_ ?_) | (with_reducible intro hb))
    refine Cal ((And.intro @eTm_eta @eTy_eta)) (H _ (List.getElem_mem hlt)) ?_
    refine Run (cast_succ) ?_; repeat' (first | (with_reducible exact True.intro) | (with_reducible refine Lf.mk ?_ ?_) | (with_reducible intro hb))
    · rw [idx_at hlt hI.2 hb]
    · exact Nxt (cast_succ) (lx + 1) (⟨by omega, any_take hlt hI.2 hb⟩) (by first | omega | (simp; omega))
  · have ha := any_all (by omega) hI.2
    refine Run (@hlt) ?_; repeat' (first | (with_reducible exact True.intro) | (with_reducible refine Lf.mk ?_ ?_) | (with_reducible intro hb))
    rw [idx_no ha]
def fc141 := (And.intro (And.intro (And.intro (And.intro sz3 ag3) (And.intro zv3 un3)) (And.intro (And.intro sz4 ag4) (And.intro zv4 (And.intro un4 sz75)))) (And.intro (And.intro (And.intro ag75 zv75) (And.intro sb75 (And.intro un75 el75))) (And.intro (And.intro ap75 sz194) (And.intro ag194 (And.intro zv194 okf224)))))
theorem slAnyTm_ok (g : Nat) (hg : fnOk Try.prog g = true) (p : Tm → Bool) (xs : List Tm) (hx : xs.length ≤ 2^48) (H : ∀ x ∈ xs, FnP Try.prog g [agT (eTm x)] (bT (p x))) : FnS Try.prog 141 [] [slT eTm xs, .c (.im (.fn g []))] [] (bT (xs.any p)) := by
  refine FnS.go [0, 1, 4] [] Try.func141 rfl (fun kt kz => ?_)
  have fcx := fc141
  simp only [Try.f141]
  refine Run (cast_succ) ?_; repeat' (first | (with_reducible exact True.intro) | (with_reducible refine Lf.mk ?_ ?_) | (with_reducible intro hb))
  refine Cal (cast_succ) (slIdxTm_ok g hg p xs hx H) ?_
  refine Run ((idx_ge (p := p) (l := xs))) ?_; repeat' (first | (with_reducible exact True.intro) | (with_reducible refine Lf.mk ?_ ?_) | (with_reducible intro hb))
def fc142 := (And.intro (And.intro (And.intro (And.intro sz4 (And.intro ag4 zv4)) (And.intro un4 (And.intro sz77 ag77))) (And.intro (And.intro zv77 (And.intro fl77_0 fl77_1)) (And.intro fl77_2 (And.intro fl77_3 fl77_4)))) (And.intro (And.intro (And.intro fl77_5 (And.intro pl77 sz201)) (And.intro ag201 (And.intro zv201 un201))) (And.intro (And.intro okf140 (And.intro sz3 sz9)) (And.intro sz74 (And.intro sz38 sz75)))))
theorem implPosFlat1_ok (t : Tm) (ht : okTm (2^20) t) : FnS Try.prog 142 [] [agT (eTm t)] [] (bT (askT t)) := by
  refine FnS.go [0, 1, 2] [] Try.func142 rfl (fun kt kz => ?_)
  have fcx := fc142
  simp only [Try.f142]
  refine Run ((And.intro @eTm_eta @eTy_eta)) ?_; repeat' (first | (with_reducible exact True.intro) | (with_reducible refine Lf.mk ?_ ?_) | (with_reducible intro hb))
  refine Cal ((And.intro @eTm_eta @eTy_eta)) (implPos_ok t ht []) ?_
  refine Run (cast_succ) ?_; repeat' (first | (with_reducible exact True.intro) | (with_reducible refine Lf.mk ?_ ?_) | (with_reducible intro hb))
def fc59 := (And.intro (And.intro (And.intro (And.intro (And.intro sz3 (And.intro ag3 zv3)) (And.intro un3 (And.intro sz4 ag4))) (And.intro (And.intro zv4 (And.intro un4 sz75)) (And.intro (And.intro ag75 zv75) (And.intro sb75 un75)))) (And.intro (And.intro (And.intro el75 (And.intro ap75 sz93)) (And.intro (And.intro ag93 zv93) (And.intro sb93 un93))) (And.intro (And.intro el93 (And.intro ap93 sz95)) (And.intro (And.intro ag95 zv95) (And.intro fl95_0 fl95_1))))) (And.intro (And.intro (And.intro (And.intro pl95 (And.intro sz194 ag194)) (And.intro (And.intro zv194 sz197) (And.intro ag197 zv197))) (And.intro (And.intro fl197_0 (And.intro fl197_1 fl197_2)) (And.intro (And.intro fl197_3 fl197_4) (And.intro fl197_5 pl197)))) (And.intro (And.intro (And.intro sz199 (And.intro ag199 zv199)) (And.intro (And.intro un199 sz201) (And.intro ag201 zv201))) (And.intro (And.intro un201 (And.intro okf140 okf141)) (And.intro (And.intro okf142 sz38) (And.intro sz195 sz77))))))
theorem implPosFlat_ok (f : FQ) (hf : okFQ (2^20) f) : FnS Try.prog 59 [] [agT (eFQ f)] [] (bT (!f.comps.any badC)) := by
  refine FnS.go [0, 1, 2, 3, 4, 7, 8, 9, 26] [] Try.func59 rfl (fun kt kz => ?_)
  have fcx := fc59
  simp only [Try.f59]
  have ho := (okFQ_iff.1 hf).2
  have hl := ho.1
  refine Run (@eFQ_eta) ?_; repeat' (first | (with_reducible exact True.intro) | (with_reducible refine Lf.mk ?_ ?_) | (with_reducible intro hb))
  refine Trn (α := Nat) [2, 3, 4, 8, 9, 10, 11, 12, 13, 14, 15, 16, 17, 18, 19, 20, 21, 22, 23, 24, 25, 26, 27] (fun i => [(8, iT i)]) (fun i => [(2, .box 95 ((eFQ f).map .im))]) (fun i => i ≤ f.comps.length ∧ (f.comps.take i).any badC = false) (fun i => f.comps.length - i) (0) (⟨Nat.zero_le _, rfl⟩) (@eFQ_eta) ?_; intro lx hI; obtain i := lx; (try simp only [List.nil_append, List.cons_append] at hI ⊢)
  by_cases hlt : lx < f.comps.length
  · have hc := okFC_iff.1 (ho.2 _ (List.getElem_mem hlt))
    have hw := hc.2.2.2.2.1
    have hcl := hc.2.2.2.2.2.1
    refine Run ((And.intro (And.intro @eFQ_eta @eFC_eta) (And.intro @eTm_eta (And.intro @eTy_eta @hlt)))) ?_; repeat' (first | (with_reducible exact True.intro) | (with_reducible refine Lf.mk ?_ ?_) | (with_reducible intro hb))
    refine Cal ((And.intro @eFC_eta (And.intro @eTm_eta @eTy_eta))) (implPos_ok f.comps[lx].wh hw _) ?_
    refine Run ((And.intro @eFQ_eta @eFC_eta)) ?_; repeat' (first | (with_reducible exact True.intro) | (with_reducible refine Lf.mk ?_ ?_) | (with_reducible intro hb))
    · have hb1 := hb
      refine Cal (@eFC_eta) (slAnyTm_ok 142 (by decide +kernel) askT f.comps[lx].cols (by omega) (fun x hx => implPosFlat1_ok x (hc.2.2.2.2.2.2 x hx))) ?_
      refine Run ((And.intro @eFQ_eta (And.intro @eFC_eta @hb1))) ?_; repeat' (first | (with_reducible exact True.intro) | (with_reducible refine Lf.mk ?_ ?_) | (with_reducible intro hb))
      · rw [any_at hlt (by unfold badC; rw [hb]; simp)]; rfl
      · exact Nxt (@eFQ_eta) (lx + 1) (⟨by omega, any_take hlt hI.2 (by unfold badC; rw [hb1, hb]; rfl)⟩) (by first | omega | (simp; omega))
    · rw [any_at hlt (by unfold badC; rw [hb]; rfl)]; rfl
  · have ha := any_all (by omega) hI.2
    refine Run ((And.intro @eFQ_eta @hlt)) ?_; repeat' (first | (with_reducible exact True.intro) | (with_reducible refine Lf.mk ?_ ?_) | (with_reducible intro hb))
    rw [ha]; rfl
def fc10 := (And.intro (And.intro (And.intro (And.intro sz3 (And.intro ag3 zv3)) (And.intro (And.intro un3 sz4) (And.intro ag4 zv4))) (And.intro (And.intro un4 (And.intro sz90 ag90)) (And.intro (And.intro zv90 fl90_0) (And.intro fl90_1 pl90)))) (And.intro (And.intro (And.intro sz95 (And.intro ag95 zv95)) (And.intro (And.intro fl95_0 fl95_1) (And.intro pl95 okf56))) (And.intro (And.intro okf57 (And.intro okf58 okf59)) (And.intro (And.intro okf60 sz38) (And.intro sz88 sz93)))))
theorem isPositiveFlat_law (a : FQ) (ha : okFQ (2^48) a) : FnS Try.prog 10 [] [agT (eFQ a)] [] (bT true) := by
  refine FnS.go [0, 1, 2, 3, 4, 5, 6, 11, 21, 26] [] Try.func10 rfl (fun kt kz => ?_)
  have fcx := fc10
  simp only [Try.f10]
  refine Run (@eFQ_eta) ?_; repeat' (first | (with_reducible exact True.intro) | (with_reducible refine Lf.mk ?_ ?_) | (with_reducible intro hb))
  refine Cal (@eFQ_eta) (szFlatQuery_ok a ha 1048576 ⟨by omega, by omega⟩) ?_
  refine Run (@eFQ_eta) ?_; repeat' (first | (with_reducible exact True.intro) | (with_reducible refine Lf.mk ?_ ?_) | (with_reducible intro hb))
  have h1 := szR_spec (zFQ a) 1048576
  have ha' : okFQ (2^20) a := okFQ_down ha (by omega)
  have hta := toFlatQuery_ok a ha'
  refine CalI (@eFQ_eta) (hta) ?_
  refine Run (@eFQ_eta) ?_; repeat' (first | (with_reducible exact True.intro) | (with_reducible refine Lf.mk ?_ ?_) | (with_reducible intro hb))
  refine Cal (@eFQ_eta) (specPosFlat_ok a ha') ?_
  refine Run (@eFQ_eta) ?_; repeat' (first | (with_reducible exact True.intro) | (with_reducible refine Lf.mk ?_ ?_) | (with_reducible intro hb))
  refine CalI (@eFQ_eta) (hta) ?_
  refine Run (@eFQ_eta) ?_; repeat' (first | (with_reducible exact True.intro) | (with_reducible refine Lf.mk ?_ ?_) | (with_reducible intro hb))
  refine Cal (@eFQ_eta) (implPosFlat_ok a ha') ?_
  refine Run (@eFQ_eta) ?_; repeat' (first | (with_reducible exact True.intro) | (with_reducible refine Lf.mk ?_ ?_) | (with_reducible intro hb))
  refine CalI (@eFQ_eta) (hta) ?_
  refine Run (@eFQ_eta) ?_; repeat' (first | (with_reducible exact True.intro) | (with_reducible refine Lf.mk ?_ ?_) | (with_reducible intro hb))
  refine Cal (@eFQ_eta) (eqFlatQuery_ok a ha') ?_
  refine Run (@eFQ_eta) ?_; repeat' (first | (with_reducible exact True.intro) | (with_reducible refine Lf.mk ?_ ?_) | (with_reducible intro hb))

end Go.VC.T
