/- Positive queries. -/
import Derived.Test.YtiohpbhdonlonaaA20
import Derived.Test.YtiohpbhdonlonaaSHead
namespace Go.VC
open Go
mutual
def posH : Hd → Bool
  | .mk _ t _ p q => !askT t && posCL q && posHL p
def posHL : List Hd → Bool
  | [] => true
  | h :: r => posH h && posHL r
def posC : Cmp → Bool
  | .mk _ w h => !askT w && posH h
def posCL : List Cmp → Bool
  | [] => true
  | c :: r => posC c && posCL r
end
theorem posHL_all : ∀ (l : List Hd), posHL l = l.all posH
  | [] => by rw [posHL]; rfl
  | t :: r => by rw [posHL, posHL_all r, List.all_cons]
theorem posCL_all : ∀ (l : List Cmp), posCL l = l.all posC
  | [] => by rw [posCL]; rfl
  | t :: r => by rw [posCL, posCL_all r, List.all_cons]
theorem posH_eta (h : Hd) : posH h = (!askT h.term && h.query.all posC && h.parts.all posH) := by
  cases h with
  | mk k t l p q => rw [posH, posCL_all, posHL_all]; rfl
theorem posC_eta (c : Cmp) : posC c = (!askT c.wh && posH c.head) := by
  cases c with
  | mk g w h => rw [posC]; rfl
end Go.VC
namespace Go.VC.T
open Go Go.VC Go.Proofs Go.VC.F
set_option linter.unusedSimpArgs false
set_option linter.unusedVariables false
set_option linter.defProp false
set_option maxRecDepth 100000
set_option maxHeartbeats 2000000
def fc71 := (And.intro (And.intro (And.intro (And.intro (And.intro sz3 (And.intro ag3 zv3)) (And.intro un3 (And.intro sz4 ag4))) (And.intro (And.intro zv4 (And.intro un4 sz77)) (And.intro (And.intro ag77 zv77) (And.intro fl77_0 fl77_1)))) (And.intro (And.intro (And.intro fl77_2 (And.intro fl77_3 fl77_4)) (And.intro (And.intro fl77_5 pl77) (And.intro sz111 ag111))) (And.intro (And.intro zv111 (And.intro sb111 un111)) (And.intro (And.intro el111 ap111) (And.intro sz113 ag113))))) (And.intro (And.intro (And.intro (And.intro zv113 (And.intro fl113_0 pl113)) (And.intro sz214 (And.intro ag214 zv214))) (And.intro (And.intro fl214_0 (And.intro fl214_1 fl214_2)) (And.intro (And.intro fl214_3 fl214_4) (And.intro pl214 sz216)))) (And.intro (And.intro (And.intro ag216 (And.intro zv216 fl216_0)) (And.intro (And.intro fl216_1 fl216_2) (And.intro pl216 okf138))) (And.intro (And.intro okf157 (And.intro sz9 sz74)) (And.intro (And.intro sz38 sz75) (And.intro sz212 sz195))))))
theorem specIsPos_of (q : List Cmp) (hqo : okQr (2^20) q) (H : ∀ c ∈ q, FnP Try.prog 157 [agT (eHd c.head)] (bT (posH c.head))) : FnS Try.prog 71 [] [agT (eQr q)] [] (bT (q.all posC)) := by
  refine FnS.go [0, 1, 2, 3, 8, 27] [] Try.func71 rfl (fun kt kz => ?_)
  have fcx := fc71
  simp only [Try.f71]
  have ho := okQr_iff.1 hqo
  have hl := ho.1
  refine Run (@eQr_eta) ?_; repeat' (first | (with_reducible exact True.intro) | (with_reducible refine Lf.mk ?_ ?_) | (with_reducible intro hb))
  refine Trn (α := Nat) [2, 3, 4, 5, 6, 7, 8, 9, 10, 11, 12, 13, 14, 15, 16, 17, 18, 19, 20, 21, 22, 23, 24, 25, 26, 27] (fun i => [(3, iT i)]) (fun i => [(2, .box 113 ((eQr q).map .im))]) (fun i => i ≤ q.length ∧ (q.take i).all posC = true) (fun i => q.length - i) (0) (⟨Nat.zero_le _, rfl⟩) (@eQr_eta) ?_; intro lx hI; obtain i := lx; (try simp only [List.nil_append, List.cons_append] at hI ⊢)
  by_cases hlt : lx < q.length
  · have hc := okCmp_iff.1 (ho.2 _ (List.getElem_mem hlt))
    refine Run ((And.intro (And.intro @eQr_eta (And.intro @eCmp_eta @eHd_eta)) (And.intro @eTm_eta (And.intro @eTy_eta @hlt)))) ?_; repeat' (first | (with_reducible exact True.intro) | (with_reducible refine Lf.mk ?_ ?_) | (with_reducible intro hb))
    refine Cal ((And.intro @eTm_eta @eTy_eta)) (specAsks_ok q[lx].wh hc.2.1) ?_
    refine Run ((And.intro (And.intro @eQr_eta @eCmp_eta) (And.intro @eHd_eta (And.intro @eTm_eta @eTy_eta)))) ?_; repeat' (first | (with_reducible exact True.intro) | (with_reducible refine Lf.mk ?_ ?_) | (with_reducible intro hb))
    · have hb1 := hb
      refine Cal ((And.intro @eHd_eta (And.intro @eTm_eta @eTy_eta))) (H _ (List.getElem_mem hlt)) ?_
      refine Run ((And.intro @eQr_eta @hb1)) ?_; repeat' (first | (with_reducible exact True.intro) | (with_reducible refine Lf.mk ?_ ?_) | (with_reducible intro hb))
      · rw [all_at hlt (by rw [posC_eta, hb1, hb]; rfl)]
      · exact Nxt (@eQr_eta) (lx + 1) (⟨by omega, all_take hlt hI.2 (by rw [posC_eta, hb1, hb]; rfl)⟩) (by first | omega | (simp; omega))
    · rw [all_at hlt (by rw [posC_eta, hb]; rfl)]
  · have ha := all_all (by omega) hI.2
    refine Run ((And.intro @eQr_eta @hlt)) ?_; repeat' (first | (with_reducible exact True.intro) | (with_reducible refine Lf.mk ?_ ?_) | (with_reducible intro hb))
    rw [ha]
def fc157 := (And.intro (And.intro (And.intro (And.intro (And.intro sz3 ag3) (And.intro zv3 (And.intro un3 sz4))) (And.intro (And.intro ag4 (And.intro zv4 un4)) (And.intro sz77 (And.intro ag77 zv77)))) (And.intro (And.intro (And.intro fl77_0 (And.intro fl77_1 fl77_2)) (And.intro fl77_3 (And.intro fl77_4 fl77_5))) (And.intro (And.intro pl77 (And.intro sz113 ag113)) (And.intro zv113 (And.intro fl113_0 pl113))))) (And.intro (And.intro (And.intro (And.intro sz212 (And.intro ag212 zv212)) (And.intro sb212 (And.intro un212 el212))) (And.intro (And.intro ap212 (And.intro sz214 ag214)) (And.intro zv214 (And.intro fl214_0 fl214_1)))) (And.intro (And.intro (And.intro fl214_2 (And.intro fl214_3 fl214_4)) (And.intro pl214 (And.intro okf71 okf138))) (And.intro (And.intro okf157 (And.intro sz9 sz74)) (And.intro sz38 (And.intro sz75 sz111))))))
theorem specPosH_of (h : Hd) (hh : okHd (2^20) h) (H0 : ∀ u ∈ h.parts, FnP Try.prog 157 [agT (eHd u)] (bT (posH u))) (H1 : FnP Try.prog 71 [agT (eQr h.query)] (bT (h.query.all posC))) : FnS Try.prog 157 [] [agT (eHd h)] [] (bT (posH h)) := by
  refine FnS.go [0, 1, 2, 3, 8, 17] [] Try.func157 rfl (fun kt kz => ?_)
  have fcx := fc157
  simp only [Try.f157]
  have ho := okHd_iff'.1 hh
  have hl := ho.2.2.2.1.1
  refine Run ((And.intro @eHd_eta (And.intro @eTm_eta @eTy_eta))) ?_; repeat' (first | (with_reducible exact True.intro) | (with_reducible refine Lf.mk ?_ ?_) | (with_reducible intro hb))
  refine Trn (α := Nat) [2, 3, 4, 5, 6, 7, 8, 9, 10, 11, 12, 13, 14, 15, 16, 17] (fun i => [(3, iT i)]) (fun i => [(2, .box 214 ((eHd h).map .im))]) (fun i => i ≤ h.parts.length ∧ (h.parts.take i).all posH = true) (fun i => h.parts.length - i) (0) (⟨Nat.zero_le _, rfl⟩) ((And.intro @eHd_eta (And.intro @eTm_eta @eTy_eta))) ?_; intro lx hI; obtain i := lx; (try simp only [List.nil_append, List.cons_append] at hI ⊢)
  by_cases hlt : lx < h.parts.length
  · refine Run ((And.intro (And.intro @eHd_eta @eTm_eta) (And.intro @eTy_eta @hlt))) ?_; repeat' (first | (with_reducible exact True.intro) | (with_reducible refine Lf.mk ?_ ?_) | (with_reducible intro hb))
    refine Cal ((And.intro @eHd_eta (And.intro @eTm_eta @eTy_eta))) (H0 _ (List.getElem_mem hlt)) ?_
    refine Run ((And.intro @eHd_eta (And.intro @eTm_eta @eTy_eta))) ?_; repeat' (first | (with_reducible exact True.intro) | (with_reducible refine Lf.mk ?_ ?_) | (with_reducible intro hb))
    · rw [posH_eta, all_at hlt hb]; simp
    · exact Nxt ((And.intro @eHd_eta (And.intro @eTm_eta @eTy_eta))) (lx + 1) (⟨by omega, all_take hlt hI.2 hb⟩) (by first | omega | (simp; omega))
  · have ha := all_all (by omega) hI.2
    refine Run ((And.intro (And.intro @eHd_eta @eTm_eta) (And.intro @eTy_eta @hlt))) ?_; repeat' (first | (with_reducible exact True.intro) | (with_reducible refine Lf.mk ?_ ?_) | (with_reducible intro hb))
    refine Cal ((And.intro @eTm_eta @eTy_eta)) (specAsks_ok h.term ho.2.1) ?_
    refine Run ((And.intro @eHd_eta (And.intro @eTm_eta @eTy_eta))) ?_; repeat' (first | (with_reducible exact True.intro) | (with_reducible refine Lf.mk ?_ ?_) | (with_reducible intro hb))
    · have hb1 := hb
      refine Cal (@eQr_eta) (H1) ?_
      refine Run (cast_succ) ?_; repeat' (first | (with_reducible exact True.intro) | (with_reducible refine Lf.mk ?_ ?_) | (with_reducible intro hb))
      rw [posH_eta, hb1, ha]; simp
    · rw [posH_eta, hb]; rfl

theorem specPosH_ok (h : Hd) (hh : okHd (2^20) h) : FnP Try.prog 157 [agT (eHd h)] (bT (posH h)) :=
  specPosH_of h hh (fun u hu => specPosH_ok u ((okHd_iff'.1 hh).2.2.2.1.2 u hu)) (specIsPos_of h.query (okHd_iff'.1 hh).2.2.2.2 fun c hc => specPosH_ok c.head (okCmp_iff.1 ((okQr_iff.1 (okHd_iff'.1 hh).2.2.2.2).2 c hc)).2.2)
termination_by SizeOf.sizeOf h
decreasing_by
  · exact Hd.memP hu
  · have := Hd.memQ hc; have := Cmp.memH c; omega
theorem specIsPos_ok (q : List Cmp) (hqo : okQr (2^20) q) : FnP Try.prog 71 [agT (eQr q)] (bT (q.all posC)) := specIsPos_of q hqo fun c hc => specPosH_ok c.head (okCmp_iff.1 ((okQr_iff.1 hqo).2 c hc)).2.2
def fc72 := (And.intro (And.intro (And.intro (And.intro (And.intro sz3 ag3) (And.intro zv3 (And.intro un3 sz4))) (And.intro (And.intro ag4 zv4) (And.intro un4 (And.intro sz111 ag111)))) (And.intro (And.intro (And.intro zv111 sb111) (And.intro un111 (And.intro el111 ap111))) (And.intro (And.intro sz113 ag113) (And.intro zv113 (And.intro fl113_0 pl113))))) (And.intro (And.intro (And.intro (And.intro sz201 ag201) (And.intro zv201 (And.intro un201 sz216))) (And.intro (And.intro ag216 zv216) (And.intro fl216_0 (And.intro fl216_1 fl216_2)))) (And.intro (And.intro (And.intro pl216 sz226) (And.intro ag226 (And.intro zv226 un226))) (And.intro (And.intro okf140 okf158) (And.intro sz195 (And.intro sz77 sz214))))))
theorem implIsPos_of (q : List Cmp) (hqo : okQr (2^20) q) (H : ∀ c ∈ q, ∀ r : List IV, FnP Try.prog 158 [.c (.im (.pt (eHd c.head ++ r)))] (bT (posH c.head))) : FnS Try.prog 72 [] [agT (eQr q)] [] (bT (q.all posC)) := by
  refine FnS.go [0, 1, 2, 3, 6, 7, 8, 25] [] Try.func72 rfl (fun kt kz => ?_)
  have fcx := fc72
  simp only [Try.f72]
  have ho := okQr_iff.1 hqo
  have hl := ho.1
  refine Run (@eQr_eta) ?_; repeat' (first | (with_reducible exact True.intro) | (with_reducible refine Lf.mk ?_ ?_) | (with_reducible intro hb))
  refine Trn (α := Nat) [2, 3, 7, 8, 9, 10, 11, 12, 13, 14, 15, 16, 17, 18, 19, 20, 21, 22, 23, 24, 25, 26] (fun i => [(7, iT i)]) (fun i => [(2, .box 113 ((eQr q).map .im))]) (fun i => i ≤ q.length ∧ (q.take i).all posC = true) (fun i => q.length - i) (0) (⟨Nat.zero_le _, rfl⟩) (@eQr_eta) ?_; intro lx hI; obtain i := lx; (try simp only [List.nil_append, List.cons_append] at hI ⊢)
  by_cases hlt : lx < q.length
  · have hc := okCmp_iff.1 (ho.2 _ (List.getElem_mem hlt))
    refine Run ((And.intro (And.intro @eQr_eta (And.intro @eCmp_eta @eHd_eta)) (And.intro @eTm_eta (And.intro @eTy_eta @hlt)))) ?_; repeat' (first | (with_reducible exact True.intro) | (with_reducible refine Lf.mk ?_ ?_) | (with_reducible intro hb))
    refine Cal ((And.intro @eTm_eta @eTy_eta)) (implPos_ok q[lx].wh hc.2.1 _) ?_
    refine Run ((And.intro (And.intro @eQr_eta @eCmp_eta) (And.intro @eHd_eta (And.intro @eTm_eta @eTy_eta)))) ?_; repeat' (first | (with_reducible exact True.intro) | (with_reducible refine Lf.mk ?_ ?_) | (with_reducible intro hb))
    · have hb1 := hb
      refine Cal ((And.intro @eHd_eta (And.intro @eTm_eta @eTy_eta))) (H _ (List.getElem_mem hlt) _) ?_
      refine Run ((And.intro @eQr_eta @hb1)) ?_; repeat' (first | (with_reducible exact True.intro) | (with_reducible refine Lf.mk ?_ ?_) | (with_reducible intro hb))
      · rw [all_at hlt (by rw [posC_eta, hb1, hb]; rfl)]
      · exact Nxt (@eQr_eta) (lx + 1) (⟨by omega, all_take hlt hI.2 (by rw [posC_eta, hb1, hb]; rfl)⟩) (by first | omega | (simp; omega))
    · rw [all_at hlt (by rw [posC_eta, hb]; rfl)]
  · have ha := all_all (by omega) hI.2
    refine Run ((And.intro @eQr_eta @hlt)) ?_; repeat' (first | (with_reducible exact True.intro) | (with_reducible refine Lf.mk ?_ ?_) | (with_reducible intro hb))
    rw [ha]
def fc158 := (And.intro (And.intro (And.intro (And.intro (And.intro sz3 ag3) (And.intro zv3 (And.intro un3 sz4))) (And.intro (And.intro ag4 zv4) (And.intro un4 (And.intro sz113 ag113)))) (And.intro (And.intro (And.intro zv113 fl113_0) (And.intro pl113 (And.intro sz201 ag201))) (And.intro (And.intro zv201 (And.intro un201 sz212)) (And.intro ag212 (And.intro zv212 sb212))))) (And.intro (And.intro (And.intro (And.intro un212 el212) (And.intro ap212 (And.intro sz214 ag214))) (And.intro (And.intro zv214 (And.intro fl214_0 fl214_1)) (And.intro fl214_2 (And.intro fl214_3 fl214_4)))) (And.intro (And.intro (And.intro pl214 sz226) (And.intro ag226 (And.intro zv226 un226))) (And.intro (And.intro okf72 (And.intro okf140 okf158)) (And.intro sz111 (And.intro sz77 sz38))))))
theorem implPosH_of (h : Hd) (hh : okHd (2^20) h) (H0 : ∀ u ∈ h.parts, ∀ r : List IV, FnP Try.prog 158 [.c (.im (.pt (eHd u ++ r)))] (bT (posH u))) (H1 : FnP Try.prog 72 [agT (eQr h.query)] (bT (h.query.all posC))) (r : List IV) : FnS Try.prog 158 [] [.c (.im (.pt (eHd h ++ r)))] [] (bT (posH h)) := by
  refine FnS.go [0, 2, 3, 16, 21, 22, 23, 32] [] Try.func158 rfl (fun kt kz => ?_)
  have fcx := fc158
  simp only [Try.f158]
  have ho := okHd_iff'.1 hh
  have hl := ho.2.2.2.1.1
  refine Run ((And.intro @eHd_eta (And.intro @eTm_eta @eTy_eta))) ?_; repeat' (first | (with_reducible exact True.intro) | (with_reducible refine Lf.mk ?_ ?_) | (with_reducible intro hb))
  refine Cal ((And.intro @eTm_eta @eTy_eta)) (implPos_ok h.term ho.2.1 _) ?_
  refine Run ((And.intro @eHd_eta (And.intro @eTm_eta @eTy_eta))) ?_; repeat' (first | (with_reducible exact True.intro) | (with_reducible refine Lf.mk ?_ ?_) | (with_reducible intro hb))
  · have hb1 := hb
    refine Cal (@eQr_eta) (H1) ?_
    refine Run ((And.intro (And.intro @eHd_eta @eTm_eta) (And.intro @eTy_eta @hb1))) ?_; repeat' (first | (with_reducible exact True.intro) | (with_reducible refine Lf.mk ?_ ?_) | (with_reducible intro hb))
    · rw [posH_eta, hb]; simp
    · have hb2 := hb
      refine Trn (α := Nat) [2, 3, 22, 23, 24, 25, 26, 27, 28, 29, 30, 31, 32, 33] (fun i => [(22, iT i)]) (fun i => []) (fun i => i ≤ h.parts.length ∧ (h.parts.take i).all posH = true) (fun i => h.parts.length - i) (0) (⟨Nat.zero_le _, rfl⟩) ((And.intro @eHd_eta (And.intro @eTm_eta @eTy_eta))) ?_; intro lx hI; obtain i := lx; (try simp only [List.nil_append, List.cons_append] at hI ⊢)
      by_cases hlt : lx < h.parts.length
      · refine Run ((And.intro (And.intro @eHd_eta @eTm_eta) (And.intro @eTy_eta @hlt))) ?_; repeat' (first | (with_reducible exact True.intro) | (with_reducible refine Lf.mk ?_ ?_) | (with_reducible intro hb))
        refine Cal ((And.intro @eHd_eta (And.intro @eTm_eta @eTy_eta))) (H0 _ (List.getElem_mem hlt) _) ?_
        refine Run ((And.intro @eHd_eta (And.intro @eTm_eta @eTy_eta))) ?_; repeat' (first | (with_reducible exact True.intro) | (with_reducible refine Lf.mk ?_ ?_) | (with_reducible intro hb))
        · rw [posH_eta, all_at hlt hb]; simp
        · exact Nxt ((And.intro @eHd_eta (And.intro @eTm_eta @eTy_eta))) (lx + 1) (⟨by omega, all_take hlt hI.2 hb⟩) (by first | omega | (simp; omega))
      · have ha := all_all (by omega) hI.2
        refine Run ((And.intro (And.intro @eHd_eta @eTm_eta) (And.intro @eTy_eta @hlt))) ?_; repeat' (first | (with_reducible exact True.intro) | (with_reducible refine Lf.mk ?_ ?_) | (with_reducible intro hb))
        rw [posH_eta, hb1, hb2, ha]; rfl
  · rw [posH_eta, hb]; rfl

theorem implPosH_ok (h : Hd) (hh : okHd (2^20) h) (r : List IV) : FnP Try.prog 158 [.c (.im (.pt (eHd h ++ r)))] (bT (posH h)) :=
  implPosH_of h hh (fun u hu r => implPosH_ok u ((okHd_iff'.1 hh).2.2.2.1.2 u hu) r) (implIsPos_of h.query (okHd_iff'.1 hh).2.2.2.2 fun c hc r => implPosH_ok c.head (okCmp_iff.1 ((okQr_iff.1 (okHd_iff'.1 hh).2.2.2.2).2 c hc)).2.2 r) r
termination_by SizeOf.sizeOf h
decreasing_by
  · exact Hd.memP hu
  · have := Hd.memQ hc; have := Cmp.memH c; omega
theorem implIsPos_ok (q : List Cmp) (hqo : okQr (2^20) q) : FnP Try.prog 72 [agT (eQr q)] (bT (q.all posC)) := implIsPos_of q hqo fun c hc r => implPosH_ok c.head (okCmp_iff.1 ((okQr_iff.1 hqo).2 c hc)).2.2 r
def fc13 := (And.intro (And.intro (And.intro (And.intro sz3 (And.intro ag3 zv3)) (And.intro un3 (And.intro sz4 ag4))) (And.intro (And.intro zv4 (And.intro un4 sz108)) (And.intro ag108 (And.intro zv108 fl108_0)))) (And.intro (And.intro (And.intro pl108 (And.intro sz113 ag113)) (And.intro zv113 (And.intro fl113_0 pl113))) (And.intro (And.intro okf66 (And.intro okf68 okf70)) (And.intro (And.intro okf71 okf72) (And.intro sz106 sz111)))))
theorem isPositive_law (a : List Cmp) (ha : okQr (2^48) a) : FnS Try.prog 13 [] [agT (eQr a)] [] (bT true) := by
  refine FnS.go [0, 1, 2, 3, 4, 5, 6, 11, 21, 26] [] Try.func13 rfl (fun kt kz => ?_)
  have fcx := fc13
  simp only [Try.f13]
  refine Run (@eQr_eta) ?_; repeat' (first | (with_reducible exact True.intro) | (with_reducible refine Lf.mk ?_ ?_) | (with_reducible intro hb))
  refine Cal (@eQr_eta) (szQuery_ok a ha 1048576 ⟨by omega, by omega⟩) ?_
  refine Run (@eQr_eta) ?_; repeat' (first | (with_reducible exact True.intro) | (with_reducible refine Lf.mk ?_ ?_) | (with_reducible intro hb))
  have h1 := szR_spec (zQr a) 1048576
  have ha' : okQr (2^20) a := okQr_down ha (by omega)
  have hta := toQuery_ok a ha'
  refine CalI (@eQr_eta) (hta) ?_
  refine Run (@eQr_eta) ?_; repeat' (first | (with_reducible exact True.intro) | (with_reducible refine Lf.mk ?_ ?_) | (with_reducible intro hb))
  refine Cal (@eQr_eta) (specIsPos_ok a ha') ?_
  refine Run (@eQr_eta) ?_; repeat' (first | (with_reducible exact True.intro) | (with_reducible refine Lf.mk ?_ ?_) | (with_reducible intro hb))
  refine CalI (@eQr_eta) (hta) ?_
  refine Run (@eQr_eta) ?_; repeat' (first | (with_reducible exact True.intro) | (with_reducible refine Lf.mk ?_ ?_) | (with_reducible intro hb))
  refine Cal (@eQr_eta) (implIsPos_ok a ha') ?_
  refine Run (@eQr_eta) ?_; repeat' (first | (with_reducible exact True.intro) | (with_reducible refine Lf.mk ?_ ?_) | (with_reducible intro hb))
  refine CalI (@eQr_eta) (hta) ?_
  refine Run (@eQr_eta) ?_; repeat' (first | (with_reducible exact True.intro) | (with_reducible refine Lf.mk ?_ ?_) | (with_reducible intro hb))
  refine Cal (@eQr_eta) (eqQuery_ok a ha') ?_
  refine Run (@eQr_eta) ?_; repeat' (first | (with_reducible exact True.intro) | (with_reducible refine Lf.mk ?_ ?_) | (with_reducible intro hb))

end Go.VC.T
