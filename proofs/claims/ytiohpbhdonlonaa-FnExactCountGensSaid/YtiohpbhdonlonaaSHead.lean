/- Data (Head): how they are measured, copied and compared. -/
import Derived.Test.YtiohpbhdonlonaaSTerm
import Derived.Test.YtiohpbhdonlonaaSGen
namespace Go.VC.T
open Go Go.VC Go.Proofs Go.VC.F
set_option linter.unusedSimpArgs false
set_option linter.unusedVariables false
set_option linter.defProp false
set_option maxRecDepth 100000
set_option maxHeartbeats 2000000
def fc281 := (And.intro (And.intro (And.intro (And.intro (And.intro sz3 (And.intro ag3 zv3)) (And.intro un3 (And.intro sz4 ag4))) (And.intro (And.intro zv4 (And.intro un4 sz38)) (And.intro (And.intro ag38 zv38) (And.intro sb38 un38)))) (And.intro (And.intro (And.intro el38 (And.intro ap38 sz67)) (And.intro (And.intro ag67 zv67) (And.intro fl67_0 fl67_1))) (And.intro (And.intro fl67_2 (And.intro fl67_3 fl67_4)) (And.intro (And.intro fl67_5 pl67) (And.intro sz108 ag108))))) (And.intro (And.intro (And.intro (And.intro zv108 (And.intro fl108_0 pl108)) (And.intro sz293 (And.intro ag293 zv293))) (And.intro (And.intro sb293 (And.intro un293 el293)) (And.intro (And.intro ap293 sz295) (And.intro ag295 zv295)))) (And.intro (And.intro (And.intro fl295_0 (And.intro fl295_1 fl295_2)) (And.intro (And.intro fl295_3 fl295_4) (And.intro pl295 okf33))) (And.intro (And.intro okf66 (And.intro okf121 okf320)) (And.intro (And.intro sz9 sz64) (And.intro sz65 sz106))))))
theorem szHead_of (t : Hd) (h : okHd (2^48) t) (H0 : ∀ left : Int, 0 ≤ left ∧ left ≤ 2^20 → FnP Try.prog 320 [slT eHd t.parts, iT left] (iT (szR (zL zHd t.parts) left))) (H1 : ∀ left : Int, 0 ≤ left ∧ left ≤ 2^20 → FnP Try.prog 66 [agT (eQr t.query), iT left] (iT (szR (zQr t.query) left))) (left : Int) (hl : 0 ≤ left ∧ left ≤ 2^20) : FnS Try.prog 281 [] [agT (eHd t), iT left] [] (iT (szR (zHd t) left)) := by
  refine FnS.go [0, 1, 2, 4, 10, 16, 22, 28] [] Try.func281 rfl (fun kt kz => ?_)
  have fcx := fc281
  simp only [Try.f281]
  have ho := okHd_iff'.1 h
  refine Run ((And.intro (And.intro @eHd_eta @eTm_eta) (And.intro @eTy_eta (And.intro @eQr_eta @szR_add)))) ?_; repeat' (first | (with_reducible exact True.intro) | (with_reducible refine Lf.mk ?_ ?_) | (with_reducible intro hb))
  refine Cal ((And.intro (And.intro @eHd_eta @eTm_eta) (And.intro @eTy_eta (And.intro @eQr_eta @szR_add)))) (szTerm_ok _ ho.2.1 _ hl) ?_
  have hz := szR_le (n := zTm t.term) hl.1
  refine Run ((And.intro (And.intro @eHd_eta @eTm_eta) (And.intro @eTy_eta (And.intro @eQr_eta @szR_add)))) ?_; repeat' (first | (with_reducible exact True.intro) | (with_reducible refine Lf.mk ?_ ?_) | (with_reducible intro hb))
  · congr 4; have s1 := szR_spec (zTm t.term) left; have s2 := szR_spec (zHd t) left; rw [zHd_eta'] at s2 ⊢; omega
  · skip
    refine Cal ((And.intro (And.intro @eHd_eta @eTm_eta) (And.intro @eTy_eta (And.intro @eQr_eta @szR_add)))) (szStringS_ok _ ho.2.2.1 _ ⟨(by assumption), by have := szR_le (n := zTm t.term) hl.1; omega⟩) ?_
    have hz := szR_le (n := zTm t.term + zSL t.labels) hl.1
    refine Run ((And.intro (And.intro @eHd_eta @eTm_eta) (And.intro @eTy_eta (And.intro @eQr_eta @szR_add)))) ?_; repeat' (first | (with_reducible exact True.intro) | (with_reducible refine Lf.mk ?_ ?_) | (with_reducible intro hb))
    · congr 4; have s1 := szR_spec (zTm t.term + zSL t.labels) left; have s2 := szR_spec (zHd t) left; rw [zHd_eta'] at s2 ⊢; omega
    · skip
      refine Cal ((And.intro (And.intro @eHd_eta @eTm_eta) (And.intro @eTy_eta (And.intro @eQr_eta @szR_add)))) (H0 _ ⟨(by assumption), by have := szR_le (n := zTm t.term + zSL t.labels) hl.1; omega⟩) ?_
      have hz := szR_le (n := zTm t.term + zSL t.labels + zL zHd t.parts) hl.1
      refine Run ((And.intro (And.intro @eHd_eta @eTm_eta) (And.intro @eTy_eta (And.intro @eQr_eta @szR_add)))) ?_; repeat' (first | (with_reducible exact True.intro) | (with_reducible refine Lf.mk ?_ ?_) | (with_reducible intro hb))
      · congr 4; have s1 := szR_spec (zTm t.term + zSL t.labels + zL zHd t.parts) left; have s2 := szR_spec (zHd t) left; rw [zHd_eta'] at s2 ⊢; omega
      · skip
        refine Cal ((And.intro (And.intro @eHd_eta @eTm_eta) (And.intro @eTy_eta (And.intro @eQr_eta @szR_add)))) (H1 _ ⟨(by assumption), by have := szR_le (n := zTm t.term + zSL t.labels + zL zHd t.parts) hl.1; omega⟩) ?_
        have hz := szR_le (n := zTm t.term + zSL t.labels + zL zHd t.parts + zQr t.query) hl.1
        refine Run ((And.intro (And.intro @eHd_eta @eTm_eta) (And.intro @eTy_eta (And.intro @eQr_eta @szR_add)))) ?_; repeat' (first | (with_reducible exact True.intro) | (with_reducible refine Lf.mk ?_ ?_) | (with_reducible intro hb))
        · congr 4; have s1 := szR_spec (zTm t.term + zSL t.labels + zL zHd t.parts + zQr t.query) left; have s2 := szR_spec (zHd t) left; rw [zHd_eta'] at s2 ⊢; omega
        · skip
          rw [zHd_eta']
def fc320 := (And.intro (And.intro (And.intro (And.intro sz3 (And.intro ag3 zv3)) (And.intro (And.intro un3 sz4) (And.intro ag4 zv4))) (And.intro (And.intro un4 (And.intro sz293 ag293)) (And.intro (And.intro zv293 sb293) (And.intro un293 el293)))) (And.intro (And.intro (And.intro ap293 (And.intro sz295 ag295)) (And.intro (And.intro zv295 fl295_0) (And.intro fl295_1 fl295_2))) (And.intro (And.intro fl295_3 (And.intro fl295_4 pl295)) (And.intro (And.intro okf281 sz67) (And.intro sz38 sz108)))))
theorem szHeadS_of (xs : List Hd) (hx : okLs (2^48) okHd xs) (H : ∀ t ∈ xs, ∀ left : Int, 0 ≤ left ∧ left ≤ 2^20 → FnP Try.prog 281 [agT (eHd t), iT left] (iT (szR (zHd t) left))) (left : Int) (hl : 0 ≤ left ∧ left ≤ 2^20) : FnS Try.prog 320 [] [slT eHd xs, iT left] [] (iT (szR (zL zHd xs) left)) := by
  refine FnS.go [0, 1, 4, 5, 11, 15, 25] [] Try.func320 rfl (fun kt kz => ?_)
  have fcx := fc320
  simp only [Try.f320]
  have hx1 := hx.1
  refine Run (cast_succ) ?_; repeat' (first | (with_reducible exact True.intro) | (with_reducible refine Lf.mk ?_ ?_) | (with_reducible intro hb))
  · simp only [szR_nil hb zL_len]
  · rw [szR_sub hb]
    have hb2 := szR_sub hb ▸ hb
    refine Trn (α := Nat) [1, 4, 5, 12, 13, 14, 15, 16, 17, 18, 19, 20, 21, 22, 23, 24, 25] (fun i => [(5, iT i), (1, iT (szR (zT zHd xs i) left))]) (fun i => []) (fun i => i ≤ xs.length ∧ 0 ≤ szR (zT zHd xs i) left) (fun i => xs.length - i) (0) (⟨Nat.zero_le _, by rw [zT_zero]; exact hb2⟩) ((zT_zero (z := zHd) (l := xs))) ?_; intro lx hI; obtain i := lx; (try simp only [List.nil_append, List.cons_append] at hI ⊢)
    have hz := szR_le (n := zT zHd xs lx) hl.1
    by_cases hlt : lx < xs.length
    · have e : szR (zHd xs[lx]) (szR (zT zHd xs lx) left) = szR (zT zHd xs (lx + 1)) left := by rw [zT_succ hlt, ← szR_add]
      refine Run ((And.intro (And.intro @eHd_eta @eTm_eta) (And.intro @eTy_eta @eQr_eta))) ?_; repeat' (first | (with_reducible exact True.intro) | (with_reducible refine Lf.mk ?_ ?_) | (with_reducible intro hb))
      · refine Cal ((And.intro (And.intro @eHd_eta @eTm_eta) (And.intro @eTy_eta @eQr_eta))) (H _ (List.getElem_mem hlt) _ ⟨hI.2, by omega⟩) ?_
        refine Run (cast_succ) ?_; repeat' (first | (with_reducible exact True.intro) | (with_reducible refine Lf.mk ?_ ?_) | (with_reducible intro hb))
        · rw [e] at hb
          rw [szR_neg hb zT_le]
        · rw [e] at hb
          exact Nxt (@e) (lx + 1) (⟨by omega, hb⟩) (by first | omega | (simp; omega))
      · omega
    · refine Run (cast_succ) ?_; repeat' (first | (with_reducible exact True.intro) | (with_reducible refine Lf.mk ?_ ?_) | (with_reducible intro hb))
      · omega
      · rw [zT_all (by omega)]
def fc231 := (And.intro (And.intro (And.intro (And.intro (And.intro sz3 (And.intro ag3 zv3)) (And.intro un3 (And.intro sz4 ag4))) (And.intro (And.intro zv4 (And.intro un4 sz67)) (And.intro ag67 (And.intro zv67 fl67_0)))) (And.intro (And.intro (And.intro fl67_1 (And.intro fl67_2 fl67_3)) (And.intro fl67_4 (And.intro fl67_5 pl67))) (And.intro (And.intro sz281 (And.intro ag281 zv281)) (And.intro (And.intro sb281 un281) (And.intro el281 ap281))))) (And.intro (And.intro (And.intro (And.intro sz295 (And.intro ag295 zv295)) (And.intro fl295_0 (And.intro fl295_1 fl295_2))) (And.intro (And.intro fl295_3 (And.intro fl295_4 pl295)) (And.intro sz297 (And.intro ag297 zv297)))) (And.intro (And.intro (And.intro fl297_0 (And.intro fl297_1 fl297_2)) (And.intro pl297 (And.intro okf121 okf275))) (And.intro (And.intro okf281 (And.intro sz9 sz64)) (And.intro (And.intro sz38 sz65) (And.intro sz293 sz108))))))
theorem szComp_of (t : Cmp) (h : okCmp (2^48) t) (H0 : ∀ left : Int, 0 ≤ left ∧ left ≤ 2^20 → FnP Try.prog 281 [agT (eHd t.head), iT left] (iT (szR (zHd t.head) left))) (left : Int) (hl : 0 ≤ left ∧ left ≤ 2^20) : FnS Try.prog 231 [] [agT (eCmp t), iT left] [] (iT (szR (zCmp t) left)) := by
  refine FnS.go [0, 1, 2, 4, 10, 16, 22] [] Try.func231 rfl (fun kt kz => ?_)
  have fcx := fc231
  simp only [Try.f231]
  have ho := okCmp_iff.1 h
  refine Run ((And.intro (And.intro @eCmp_eta (And.intro @eTm_eta @eTy_eta)) (And.intro @eHd_eta (And.intro @eQr_eta @szR_add)))) ?_; repeat' (first | (with_reducible exact True.intro) | (with_reducible refine Lf.mk ?_ ?_) | (with_reducible intro hb))
  refine Cal ((And.intro (And.intro @eCmp_eta (And.intro @eTm_eta @eTy_eta)) (And.intro @eHd_eta (And.intro @eQr_eta @szR_add)))) (szGenS_ok _ ho.1 _ hl) ?_
  have hz := szR_le (n := zL zGn t.gens) hl.1
  refine Run ((And.intro (And.intro @eCmp_eta (And.intro @eTm_eta @eTy_eta)) (And.intro @eHd_eta (And.intro @eQr_eta @szR_add)))) ?_; repeat' (first | (with_reducible exact True.intro) | (with_reducible refine Lf.mk ?_ ?_) | (with_reducible intro hb))
  · congr 4; have s1 := szR_spec (zL zGn t.gens) left; have s2 := szR_spec (zCmp t) left; rw [zCmp_eta] at s2 ⊢; omega
  · skip
    refine Cal ((And.intro (And.intro @eCmp_eta (And.intro @eTm_eta @eTy_eta)) (And.intro @eHd_eta (And.intro @eQr_eta @szR_add)))) (szTerm_ok _ ho.2.1 _ ⟨(by assumption), by have := szR_le (n := zL zGn t.gens) hl.1; omega⟩) ?_
    have hz := szR_le (n := zL zGn t.gens + zTm t.wh) hl.1
    refine Run ((And.intro (And.intro @eCmp_eta (And.intro @eTm_eta @eTy_eta)) (And.intro @eHd_eta (And.intro @eQr_eta @szR_add)))) ?_; repeat' (first | (with_reducible exact True.intro) | (with_reducible refine Lf.mk ?_ ?_) | (with_reducible intro hb))
    · congr 4; have s1 := szR_spec (zL zGn t.gens + zTm t.wh) left; have s2 := szR_spec (zCmp t) left; rw [zCmp_eta] at s2 ⊢; omega
    · skip
      refine Cal ((And.intro (And.intro @eCmp_eta (And.intro @eTm_eta @eTy_eta)) (And.intro @eHd_eta (And.intro @eQr_eta @szR_add)))) (H0 _ ⟨(by assumption), by have := szR_le (n := zL zGn t.gens + zTm t.wh) hl.1; omega⟩) ?_
      have hz := szR_le (n := zL zGn t.gens + zTm t.wh + zHd t.head) hl.1
      refine Run ((And.intro (And.intro @eCmp_eta (And.intro @eTm_eta @eTy_eta)) (And.intro @eHd_eta (And.intro @eQr_eta @szR_add)))) ?_; repeat' (first | (with_reducible exact True.intro) | (with_reducible refine Lf.mk ?_ ?_) | (with_reducible intro hb))
      · congr 4; have s1 := szR_spec (zL zGn t.gens + zTm t.wh + zHd t.head) left; have s2 := szR_spec (zCmp t) left; rw [zCmp_eta] at s2 ⊢; omega
      · skip
        rw [zCmp_eta]
def fc151 := (And.intro (And.intro (And.intro (And.intro sz3 (And.intro ag3 zv3)) (And.intro un3 (And.intro sz4 ag4))) (And.intro (And.intro zv4 (And.intro un4 sz106)) (And.intro (And.intro ag106 zv106) (And.intro sb106 un106)))) (And.intro (And.intro (And.intro el106 (And.intro ap106 sz297)) (And.intro ag297 (And.intro zv297 fl297_0))) (And.intro (And.intro fl297_1 (And.intro fl297_2 pl297)) (And.intro (And.intro okf231 sz281) (And.intro sz67 sz295)))))
theorem szCompS_of (xs : List Cmp) (hx : okLs (2^48) okCmp xs) (H : ∀ t ∈ xs, ∀ left : Int, 0 ≤ left ∧ left ≤ 2^20 → FnP Try.prog 231 [agT (eCmp t), iT left] (iT (szR (zCmp t) left))) (left : Int) (hl : 0 ≤ left ∧ left ≤ 2^20) : FnS Try.prog 151 [] [slT eCmp xs, iT left] [] (iT (szR (zL zCmp xs) left)) := by
  refine FnS.go [0, 1, 4, 5, 11, 15, 25] [] Try.func151 rfl (fun kt kz => ?_)
  have fcx := fc151
  simp only [Try.f151]
  have hx1 := hx.1
  refine Run (cast_succ) ?_; repeat' (first | (with_reducible exact True.intro) | (with_reducible refine Lf.mk ?_ ?_) | (with_reducible intro hb))
  · simp only [szR_nil hb zL_len]
  · rw [szR_sub hb]
    have hb2 := szR_sub hb ▸ hb
    refine Trn (α := Nat) [1, 4, 5, 12, 13, 14, 15, 16, 17, 18, 19, 20, 21, 22, 23, 24, 25] (fun i => [(5, iT i), (1, iT (szR (zT zCmp xs i) left))]) (fun i => []) (fun i => i ≤ xs.length ∧ 0 ≤ szR (zT zCmp xs i) left) (fun i => xs.length - i) (0) (⟨Nat.zero_le _, by rw [zT_zero]; exact hb2⟩) ((zT_zero (z := zCmp) (l := xs))) ?_; intro lx hI; obtain i := lx; (try simp only [List.nil_append, List.cons_append] at hI ⊢)
    have hz := szR_le (n := zT zCmp xs lx) hl.1
    by_cases hlt : lx < xs.length
    · have e : szR (zCmp xs[lx]) (szR (zT zCmp xs lx) left) = szR (zT zCmp xs (lx + 1)) left := by rw [zT_succ hlt, ← szR_add]
      refine Run ((And.intro (And.intro @eCmp_eta @eTm_eta) (And.intro @eTy_eta (And.intro @eHd_eta @eQr_eta)))) ?_; repeat' (first | (with_reducible exact True.intro) | (with_reducible refine Lf.mk ?_ ?_) | (with_reducible intro hb))
      · refine Cal ((And.intro (And.intro @eCmp_eta @eTm_eta) (And.intro @eTy_eta (And.intro @eHd_eta @eQr_eta)))) (H _ (List.getElem_mem hlt) _ ⟨hI.2, by omega⟩) ?_
        refine Run (cast_succ) ?_; repeat' (first | (with_reducible exact True.intro) | (with_reducible refine Lf.mk ?_ ?_) | (with_reducible intro hb))
        · rw [e] at hb
          rw [szR_neg hb zT_le]
        · rw [e] at hb
          exact Nxt (@e) (lx + 1) (⟨by omega, hb⟩) (by first | omega | (simp; omega))
      · omega
    · refine Run (cast_succ) ?_; repeat' (first | (with_reducible exact True.intro) | (with_reducible refine Lf.mk ?_ ?_) | (with_reducible intro hb))
      · omega
      · rw [zT_all (by omega)]
def fc66 := (And.intro (And.intro (And.intro (And.intro sz3 ag3) (And.intro zv3 (And.intro un3 sz4))) (And.intro (And.intro ag4 zv4) (And.intro un4 (And.intro sz106 ag106)))) (And.intro (And.intro (And.intro zv106 sb106) (And.intro un106 (And.intro el106 ap106))) (And.intro (And.intro sz108 (And.intro ag108 zv108)) (And.intro fl108_0 (And.intro pl108 okf151)))))
theorem szQuery_of (t : List Cmp) (h : okQr (2^48) t) (H0 : ∀ left : Int, 0 ≤ left ∧ left ≤ 2^20 → FnP Try.prog 151 [slT eCmp t, iT left] (iT (szR (zL zCmp t) left))) (left : Int) (hl : 0 ≤ left ∧ left ≤ 2^20) : FnS Try.prog 66 [] [agT (eQr t), iT left] [] (iT (szR (zQr t) left)) := by
  refine FnS.go [0, 1, 2, 4, 10] [] Try.func66 rfl (fun kt kz => ?_)
  have fcx := fc66
  simp only [Try.f66]
  have ho := okQr_iff.1 h
  refine Run ((And.intro @eQr_eta @szR_add)) ?_; repeat' (first | (with_reducible exact True.intro) | (with_reducible refine Lf.mk ?_ ?_) | (with_reducible intro hb))
  refine Cal ((And.intro @eQr_eta @szR_add)) (H0 _ hl) ?_
  have hz := szR_le (n := zL zCmp t) hl.1
  refine Run ((And.intro @eQr_eta @szR_add)) ?_; repeat' (first | (with_reducible exact True.intro) | (with_reducible refine Lf.mk ?_ ?_) | (with_reducible intro hb))
  · congr 4; have s1 := szR_spec (zL zCmp t) left; have s2 := szR_spec (zQr t) left; rw [zQr_eta] at s2 ⊢; omega
  · skip
    rw [zQr_eta]

mutual
theorem szHead_ok (t : Hd) (h : okHd (2^48) t) (left : Int) (hl : 0 ≤ left ∧ left ≤ 2^20) : FnP Try.prog 281 [agT (eHd t), iT left] (iT (szR (zHd t) left)) := szHead_of t h (fun left hl => szHeadS_of t.parts ((okHd_iff'.1 h).2.2.2.1) (fun u hu left hl => szHead_ok u (((okHd_iff'.1 h).2.2.2.1).2 u hu) left hl) left hl) (fun left hl => szQuery_of t.query ((okHd_iff'.1 h).2.2.2.2) (fun left hl => szCompS_of t.query (okQr_iff.1 ((okHd_iff'.1 h).2.2.2.2)) (fun u hu left hl => szComp_ok u ((okQr_iff.1 ((okHd_iff'.1 h).2.2.2.2)).2 u hu) left hl) left hl) left hl) left hl
termination_by SizeOf.sizeOf t
decreasing_by all_goals first | exact Ty.mem hu | exact Val.mem hu | exact Tm.mem hu | exact Pl.mem hu | exact Hd.memP hu | exact Hd.memQ hu | exact Cmp.memH _
theorem szComp_ok (t : Cmp) (h : okCmp (2^48) t) (left : Int) (hl : 0 ≤ left ∧ left ≤ 2^20) : FnP Try.prog 231 [agT (eCmp t), iT left] (iT (szR (zCmp t) left)) := szComp_of t h (fun left hl => szHead_ok t.head ((okCmp_iff.1 h).2.2) left hl) left hl
termination_by SizeOf.sizeOf t
decreasing_by all_goals first | exact Ty.mem hu | exact Val.mem hu | exact Tm.mem hu | exact Pl.mem hu | exact Hd.memP hu | exact Hd.memQ hu | exact Cmp.memH _
end
theorem szHeadS_ok (xs : List Hd) (h : okLs (2^48) okHd xs) (left : Int) (hl : 0 ≤ left ∧ left ≤ 2^20) : FnP Try.prog 320 [slT eHd xs, iT left] (iT (szR (zL zHd xs) left)) := szHeadS_of xs h (fun t ht left hl => szHead_ok t (h.2 t ht) left hl) left hl
theorem szCompS_ok (xs : List Cmp) (h : okLs (2^48) okCmp xs) (left : Int) (hl : 0 ≤ left ∧ left ≤ 2^20) : FnP Try.prog 151 [slT eCmp xs, iT left] (iT (szR (zL zCmp xs) left)) := szCompS_of xs h (fun t ht left hl => szComp_ok t (h.2 t ht) left hl) left hl
theorem szQuery_ok (t : List Cmp) (h : okQr (2^48) t) (left : Int) (hl : 0 ≤ left ∧ left ≤ 2^20) : FnP Try.prog 66 [agT (eQr t), iT left] (iT (szR (zQr t) left)) := szQuery_of t h (fun left hl => szCompS_of t (okQr_iff.1 h) (fun u hu left hl => szComp_ok u ((okQr_iff.1 h).2 u hu) left hl) left hl) left hl
def fc282 := (And.intro (And.intro (And.intro (And.intro (And.intro (And.intro sz3 ag3) (And.intro zv3 (And.intro un3 sz38))) (And.intro (And.intro ag38 zv38) (And.intro sb38 (And.intro un38 el38)))) (And.intro (And.intro (And.intro ap38 sz67) (And.intro ag67 (And.intro zv67 fl67_0))) (And.intro (And.intro fl67_1 (And.intro fl67_2 fl67_3)) (And.intro fl67_4 (And.intro fl67_5 pl67))))) (And.intro (And.intro (And.intro (And.intro sz77 ag77) (And.intro zv77 (And.intro fl77_0 fl77_1))) (And.intro (And.intro fl77_2 fl77_3) (And.intro fl77_4 (And.intro fl77_5 pl77)))) (And.intro (And.intro (And.intro sz108 ag108) (And.intro zv108 (And.intro fl108_0 pl108))) (And.intro (And.intro sz113 (And.intro ag113 zv113)) (And.intro fl113_0 (And.intro pl113 sz212)))))) (And.intro (And.intro (And.intro (And.intro (And.intro ag212 zv212) (And.intro sb212 (And.intro un212 el212))) (And.intro (And.intro ap212 sz214) (And.intro ag214 (And.intro zv214 fl214_0)))) (And.intro (And.intro (And.intro fl214_1 fl214_2) (And.intro fl214_3 (And.intro fl214_4 pl214))) (And.intro (And.intro sz293 (And.intro ag293 zv293)) (And.intro sb293 (And.intro un293 el293))))) (And.intro (And.intro (And.intro (And.intro ap293 sz295) (And.intro ag295 (And.intro zv295 fl295_0))) (And.intro (And.intro fl295_1 fl295_2) (And.intro fl295_3 (And.intro fl295_4 pl295)))) (And.intro (And.intro (And.intro okf36 okf68) (And.intro okf124 (And.intro okf321 sz9))) (And.intro (And.intro sz64 (And.intro sz65 sz74)) (And.intro sz75 (And.intro sz106 sz111)))))))
theorem toHead_q (t : Hd) (h : okHd (2^20) t) (H0 : FnP Try.prog 321 [slT eHd t.parts] (slT eHd t.parts)) (H1 : FnP Try.prog 68 [agT (eQr t.query)] (agT (eQr t.query))) : FnS Try.prog 282 [] [agT (eHd t)] [] (agT (eHd t)) := by
  refine FnS.go [0, 1, 2, 3] [] Try.func282 rfl (fun kt kz => ?_)
  have fcx := fc282
  simp only [Try.f282]
  have ho := okHd_iff'.1 h
  refine Run ((And.intro (And.intro @eHd_eta @eTm_eta) (And.intro @eTy_eta @eQr_eta))) ?_; repeat' (first | (with_reducible exact True.intro) | (with_reducible refine Lf.mk ?_ ?_) | (with_reducible intro hb))
  refine CalI ((And.intro (And.intro @eHd_eta @eTm_eta) (And.intro @eTy_eta @eQr_eta))) (toTerm_ok _ ho.2.1) ?_
  refine Run ((And.intro (And.intro @eHd_eta @eTm_eta) (And.intro @eTy_eta @eQr_eta))) ?_; repeat' (first | (with_reducible exact True.intro) | (with_reducible refine Lf.mk ?_ ?_) | (with_reducible intro hb))
  refine CalI ((And.intro (And.intro @eHd_eta @eTm_eta) (And.intro @eTy_eta @eQr_eta))) (toStringS_rf _ ho.2.2.1) ?_
  refine Run ((And.intro (And.intro @eHd_eta @eTm_eta) (And.intro @eTy_eta @eQr_eta))) ?_; repeat' (first | (with_reducible exact True.intro) | (with_reducible refine Lf.mk ?_ ?_) | (with_reducible intro hb))
  refine CalI ((And.intro (And.intro @eHd_eta @eTm_eta) (And.intro @eTy_eta @eQr_eta))) (H0) ?_
  refine Run ((And.intro (And.intro @eHd_eta @eTm_eta) (And.intro @eTy_eta @eQr_eta))) ?_; repeat' (first | (with_reducible exact True.intro) | (with_reducible refine Lf.mk ?_ ?_) | (with_reducible intro hb))
  refine CalI ((And.intro (And.intro @eHd_eta @eTm_eta) (And.intro @eTy_eta @eQr_eta))) (H1) ?_
  refine Run ((And.intro (And.intro @eHd_eta @eTm_eta) (And.intro @eTy_eta @eQr_eta))) ?_; repeat' (first | (with_reducible exact True.intro) | (with_reducible refine Lf.mk ?_ ?_) | (with_reducible intro hb))
def fc321 := (And.intro (And.intro (And.intro (And.intro (And.intro sz3 ag3) (And.intro zv3 (And.intro un3 sz4))) (And.intro (And.intro ag4 (And.intro zv4 un4)) (And.intro sz212 (And.intro ag212 zv212)))) (And.intro (And.intro (And.intro sb212 (And.intro un212 el212)) (And.intro ap212 (And.intro sz214 ag214))) (And.intro (And.intro zv214 (And.intro fl214_0 fl214_1)) (And.intro fl214_2 (And.intro fl214_3 fl214_4))))) (And.intro (And.intro (And.intro (And.intro pl214 sz293) (And.intro ag293 (And.intro zv293 sb293))) (And.intro (And.intro un293 (And.intro el293 ap293)) (And.intro sz295 (And.intro ag295 zv295)))) (And.intro (And.intro (And.intro fl295_0 (And.intro fl295_1 fl295_2)) (And.intro fl295_3 (And.intro fl295_4 pl295))) (And.intro (And.intro okf282 (And.intro sz77 sz38)) (And.intro sz113 (And.intro sz67 sz108))))))
theorem toHeadS_q (xs : List Hd) (hx : okLs (2^20) okHd xs) (H : ∀ t ∈ xs, FnP Try.prog 282 [agT (eHd t)] (agT (eHd t))) : FnS Try.prog 321 [] [slT eHd xs] [] (slT eHd xs) := by
  refine FnS.go [0, 2, 3, 4, 11] [14] Try.func321 rfl (fun kt kz => ?_)
  have fcx := fc321
  simp only [Try.f321]
  have hx1 := hx.1
  refine Run (cast_succ) ?_; repeat' (first | (with_reducible exact True.intro) | (with_reducible refine Lf.mk ?_ ?_) | (with_reducible intro hb))
  refine Sm.share (14) (by simp -dsimp (maxSteps := 2000000) (disch := omega) only [vs, ↓Option.bind_some, ev1, ofV, scalarB, Kn, Kb, calleeOf, evLoad, ptr, evField, evFieldAddr, shift, ↓pt_at, ↓pt_at1, evExtract, evBin, evLen, evConv, cellsT, noS, Cell.has, Cell.hasN, Cell.anyN, toIV, toIV0, toIVs, ownC, srcM, Ob.own, Ob.esz, allSc, nilK, lenC, ownCell, isPtr, ptrNil, frzO, Cell.frz, Cell.keys, ↓reduceIte, reduceCtorEq, Nat.reduceEqDiff, Nat.reduceBEq, Nat.reduceBNe, Nat.reduceAdd, Nat.reduceMul, Nat.reduceSub, Nat.reduceLT, Nat.reduceLeDiff, Nat.reducePow, Int.reduceLT, Int.reduceLE, Int.reduceEq, Int.reduceNe, quietB, Nat.reduceMod, Int.reduceToNat, ne_eq, eq_self, exists_const, evBytes, byRow, byL, byStr_size, ifsz, ByteArray.size_append, Option.none_or, Option.some_or, fc321]) ?_; simp -dsimp (maxSteps := 2000000) (disch := omega) only [vs, ↓Option.bind_some, ev1, ofV, scalarB, Kn, Kb, calleeOf, evLoad, ptr, evField, evFieldAddr, shift, ↓pt_at, ↓pt_at1, evExtract, evBin, evLen, evConv, cellsT, noS, Cell.has, Cell.hasN, Cell.anyN, toIV, toIV0, toIVs, ownC, srcM, Ob.own, Ob.esz, allSc, nilK, lenC, ownCell, isPtr, ptrNil, frzO, Cell.frz, Cell.keys, ↓reduceIte, reduceCtorEq, Nat.reduceEqDiff, Nat.reduceBEq, Nat.reduceBNe, Nat.reduceAdd, Nat.reduceMul, Nat.reduceSub, Nat.reduceLT, Nat.reduceLeDiff, Nat.reducePow, Int.reduceLT, Int.reduceLE, Int.reduceEq, Int.reduceNe, quietB, Nat.reduceMod, Int.reduceToNat, ne_eq, eq_self, exists_const, evBytes, byRow, byL, byStr_size, ifsz, ByteArray.size_append, Option.none_or, Option.some_or, fc321, St.share]
  refine Trn (α := Nat) [4, 8, 9, 10, 11, 12, 13, 14, 15, 16, 17, 18, 19, 20, 21] (fun i => [(4, iT i), (3, .c (.os 14 xs.length))]) (fun i => [(14, .vec 214 12 xs.length (filled eHd [.sc (.int .i64 0), .sc (.int .i64 0), .sc (.string ⟨#[]⟩), .sc (.int .i64 0), .sc (.int .i64 0), .sl 0 [], .sl 0 [], .sl 0 [], .sl 0 [], .sl 0 [], .sl 0 [], .sl 0 []] xs i) false)]) (fun i => i ≤ xs.length) (fun i => xs.length - i) (0) (Nat.zero_le _) (cast_succ) ?_; intro lx hI; obtain i := lx; (try simp only [List.nil_append, List.cons_append] at hI ⊢)
  refine Run ((And.intro (And.intro @eHd_eta @eTm_eta) (And.intro @eTy_eta @eQr_eta))) ?_; repeat' (first | (with_reducible exact True.intro) | (with_reducible refine Lf.mk ?_ ?_) | (with_reducible intro hb))
  · refine CalI ((And.intro (And.intro @eHd_eta @eTm_eta) (And.intro @eTy_eta @eQr_eta))) (H _ (List.getElem_mem hb)) ?_
    refine Run ((And.intro (And.intro @eHd_eta @eTm_eta) (And.intro @eTy_eta @eQr_eta))) ?_; repeat' (first | (with_reducible exact True.intro) | (with_reducible refine Lf.mk ?_ ?_) | (with_reducible intro hb))
    have hs := filled_step' (E := eHd) (zs := [.sc (.int .i64 0), .sc (.int .i64 0), .sc (.string ⟨#[]⟩), .sc (.int .i64 0), .sc (.int .i64 0), .sl 0 [], .sl 0 [], .sl 0 [], .sl 0 [], .sl 0 [], .sl 0 [], .sl 0 []]) hb
    simp only [eHd_eta, eTm_eta, eTy_eta, eQr_eta, setL_st, stL_one, slI] at hs
    exact Nxt (@hs) (lx + 1) (by omega) (by first | omega | (simp; omega))
def fc232 := (And.intro (And.intro (And.intro (And.intro (And.intro (And.intro sz67 ag67) (And.intro zv67 (And.intro fl67_0 fl67_1))) (And.intro (And.intro fl67_2 fl67_3) (And.intro fl67_4 (And.intro fl67_5 pl67)))) (And.intro (And.intro (And.intro sz77 ag77) (And.intro zv77 (And.intro fl77_0 fl77_1))) (And.intro (And.intro fl77_2 fl77_3) (And.intro fl77_4 (And.intro fl77_5 pl77))))) (And.intro (And.intro (And.intro (And.intro sz195 ag195) (And.intro zv195 (And.intro sb195 un195))) (And.intro (And.intro el195 ap195) (And.intro sz214 (And.intro ag214 zv214)))) (And.intro (And.intro (And.intro fl214_0 fl214_1) (And.intro fl214_2 (And.intro fl214_3 fl214_4))) (And.intro (And.intro pl214 sz216) (And.intro ag216 (And.intro zv216 fl216_0)))))) (And.intro (And.intro (And.intro (And.intro (And.intro fl216_1 fl216_2) (And.intro pl216 (And.intro sz281 ag281))) (And.intro (And.intro zv281 sb281) (And.intro un281 (And.intro el281 ap281)))) (And.intro (And.intro (And.intro sz295 ag295) (And.intro zv295 (And.intro fl295_0 fl295_1))) (And.intro (And.intro fl295_2 fl295_3) (And.intro fl295_4 (And.intro pl295 sz297))))) (And.intro (And.intro (And.intro (And.intro ag297 zv297) (And.intro fl297_0 (And.intro fl297_1 fl297_2))) (And.intro (And.intro pl297 okf124) (And.intro okf276 (And.intro okf282 sz3)))) (And.intro (And.intro (And.intro sz9 sz64) (And.intro sz38 (And.intro sz65 sz74))) (And.intro (And.intro sz75 sz212) (And.intro sz113 (And.intro sz293 sz108)))))))
theorem toComp_q (t : Cmp) (h : okCmp (2^20) t) (H0 : FnP Try.prog 282 [agT (eHd t.head)] (agT (eHd t.head))) : FnS Try.prog 232 [] [agT (eCmp t)] [] (agT (eCmp t)) := by
  refine FnS.go [0, 1, 2, 3] [] Try.func232 rfl (fun kt kz => ?_)
  have fcx := fc232
  simp only [Try.f232]
  have ho := okCmp_iff.1 h
  refine Run ((And.intro (And.intro @eCmp_eta @eTm_eta) (And.intro @eTy_eta (And.intro @eHd_eta @eQr_eta)))) ?_; repeat' (first | (with_reducible exact True.intro) | (with_reducible refine Lf.mk ?_ ?_) | (with_reducible intro hb))
  refine CalI ((And.intro (And.intro @eCmp_eta @eTm_eta) (And.intro @eTy_eta (And.intro @eHd_eta @eQr_eta)))) (toGenS_ok _ ho.1) ?_
  refine Run ((And.intro (And.intro @eCmp_eta @eTm_eta) (And.intro @eTy_eta (And.intro @eHd_eta @eQr_eta)))) ?_; repeat' (first | (with_reducible exact True.intro) | (with_reducible refine Lf.mk ?_ ?_) | (with_reducible intro hb))
  refine CalI ((And.intro (And.intro @eCmp_eta @eTm_eta) (And.intro @eTy_eta (And.intro @eHd_eta @eQr_eta)))) (toTerm_ok _ ho.2.1) ?_
  refine Run ((And.intro (And.intro @eCmp_eta @eTm_eta) (And.intro @eTy_eta (And.intro @eHd_eta @eQr_eta)))) ?_; repeat' (first | (with_reducible exact True.intro) | (with_reducible refine Lf.mk ?_ ?_) | (with_reducible intro hb))
  refine CalI ((And.intro (And.intro @eCmp_eta @eTm_eta) (And.intro @eTy_eta (And.intro @eHd_eta @eQr_eta)))) (H0) ?_
  refine Run ((And.intro (And.intro @eCmp_eta @eTm_eta) (And.intro @eTy_eta (And.intro @eHd_eta @eQr_eta)))) ?_; repeat' (first | (with_reducible exact True.intro) | (with_reducible refine Lf.mk ?_ ?_) | (with_reducible intro hb))
def fc153 := (And.intro (And.intro (And.intro (And.intro (And.intro sz3 ag3) (And.intro zv3 (And.intro un3 sz4))) (And.intro (And.intro ag4 zv4) (And.intro un4 (And.intro sz106 ag106)))) (And.intro (And.intro (And.intro zv106 sb106) (And.intro un106 (And.intro el106 ap106))) (And.intro (And.intro sz111 (And.intro ag111 zv111)) (And.intro sb111 (And.intro un111 el111))))) (And.intro (And.intro (And.intro (And.intro ap111 sz216) (And.intro ag216 (And.intro zv216 fl216_0))) (And.intro (And.intro fl216_1 (And.intro fl216_2 pl216)) (And.intro sz297 (And.intro ag297 zv297)))) (And.intro (And.intro (And.intro fl297_0 fl297_1) (And.intro fl297_2 (And.intro pl297 okf232))) (And.intro (And.intro sz195 (And.intro sz77 sz214)) (And.intro sz281 (And.intro sz67 sz295))))))
theorem toCompS_q (xs : List Cmp) (hx : okLs (2^20) okCmp xs) (H : ∀ t ∈ xs, FnP Try.prog 232 [agT (eCmp t)] (agT (eCmp t))) : FnS Try.prog 153 [] [slT eCmp xs] [] (slT eCmp xs) := by
  refine FnS.go [0, 2, 3, 4, 11] [14] Try.func153 rfl (fun kt kz => ?_)
  have fcx := fc153
  simp only [Try.f153]
  have hx1 := hx.1
  refine Run (cast_succ) ?_; repeat' (first | (with_reducible exact True.intro) | (with_reducible refine Lf.mk ?_ ?_) | (with_reducible intro hb))
  refine Sm.share (14) (by simp -dsimp (maxSteps := 2000000) (disch := omega) only [vs, ↓Option.bind_some, ev1, ofV, scalarB, Kn, Kb, calleeOf, evLoad, ptr, evField, evFieldAddr, shift, ↓pt_at, ↓pt_at1, evExtract, evBin, evLen, evConv, cellsT, noS, Cell.has, Cell.hasN, Cell.anyN, toIV, toIV0, toIVs, ownC, srcM, Ob.own, Ob.esz, allSc, nilK, lenC, ownCell, isPtr, ptrNil, frzO, Cell.frz, Cell.keys, ↓reduceIte, reduceCtorEq, Nat.reduceEqDiff, Nat.reduceBEq, Nat.reduceBNe, Nat.reduceAdd, Nat.reduceMul, Nat.reduceSub, Nat.reduceLT, Nat.reduceLeDiff, Nat.reducePow, Int.reduceLT, Int.reduceLE, Int.reduceEq, Int.reduceNe, quietB, Nat.reduceMod, Int.reduceToNat, ne_eq, eq_self, exists_const, evBytes, byRow, byL, byStr_size, ifsz, ByteArray.size_append, Option.none_or, Option.some_or, fc153]) ?_; simp -dsimp (maxSteps := 2000000) (disch := omega) only [vs, ↓Option.bind_some, ev1, ofV, scalarB, Kn, Kb, calleeOf, evLoad, ptr, evField, evFieldAddr, shift, ↓pt_at, ↓pt_at1, evExtract, evBin, evLen, evConv, cellsT, noS, Cell.has, Cell.hasN, Cell.anyN, toIV, toIV0, toIVs, ownC, srcM, Ob.own, Ob.esz, allSc, nilK, lenC, ownCell, isPtr, ptrNil, frzO, Cell.frz, Cell.keys, ↓reduceIte, reduceCtorEq, Nat.reduceEqDiff, Nat.reduceBEq, Nat.reduceBNe, Nat.reduceAdd, Nat.reduceMul, Nat.reduceSub, Nat.reduceLT, Nat.reduceLeDiff, Nat.reducePow, Int.reduceLT, Int.reduceLE, Int.reduceEq, Int.reduceNe, quietB, Nat.reduceMod, Int.reduceToNat, ne_eq, eq_self, exists_const, evBytes, byRow, byL, byStr_size, ifsz, ByteArray.size_append, Option.none_or, Option.some_or, fc153, St.share]
  refine Trn (α := Nat) [4, 8, 9, 10, 11, 12, 13, 14, 15, 16, 17, 18, 19, 20, 21] (fun i => [(4, iT i), (3, .c (.os 14 xs.length))]) (fun i => [(14, .vec 216 21 xs.length (filled eCmp [.sl 0 [], .sc (.int .i64 0), .sc (.string ⟨#[]⟩), .sc (.int .i64 0), .sc (.int .i64 0), .sl 0 [], .sl 0 [], .sl 0 [], .sl 0 [], .sc (.int .i64 0), .sc (.int .i64 0), .sc (.string ⟨#[]⟩), .sc (.int .i64 0), .sc (.int .i64 0), .sl 0 [], .sl 0 [], .sl 0 [], .sl 0 [], .sl 0 [], .sl 0 [], .sl 0 []] xs i) false)]) (fun i => i ≤ xs.length) (fun i => xs.length - i) (0) (Nat.zero_le _) (cast_succ) ?_; intro lx hI; obtain i := lx; (try simp only [List.nil_append, List.cons_append] at hI ⊢)
  refine Run ((And.intro (And.intro @eCmp_eta @eTm_eta) (And.intro @eTy_eta (And.intro @eHd_eta @eQr_eta)))) ?_; repeat' (first | (with_reducible exact True.intro) | (with_reducible refine Lf.mk ?_ ?_) | (with_reducible intro hb))
  · refine CalI ((And.intro (And.intro @eCmp_eta @eTm_eta) (And.intro @eTy_eta (And.intro @eHd_eta @eQr_eta)))) (H _ (List.getElem_mem hb)) ?_
    refine Run ((And.intro (And.intro @eCmp_eta @eTm_eta) (And.intro @eTy_eta (And.intro @eHd_eta @eQr_eta)))) ?_; repeat' (first | (with_reducible exact True.intro) | (with_reducible refine Lf.mk ?_ ?_) | (with_reducible intro hb))
    have hs := filled_step' (E := eCmp) (zs := [.sl 0 [], .sc (.int .i64 0), .sc (.string ⟨#[]⟩), .sc (.int .i64 0), .sc (.int .i64 0), .sl 0 [], .sl 0 [], .sl 0 [], .sl 0 [], .sc (.int .i64 0), .sc (.int .i64 0), .sc (.string ⟨#[]⟩), .sc (.int .i64 0), .sc (.int .i64 0), .sl 0 [], .sl 0 [], .sl 0 [], .sl 0 [], .sl 0 [], .sl 0 [], .sl 0 []]) hb
    simp only [eCmp_eta, eTm_eta, eTy_eta, eHd_eta, eQr_eta, setL_st, stL_one, slI] at hs
    exact Nxt (@hs) (lx + 1) (by omega) (by first | omega | (simp; omega))
def fc68 := (And.intro (And.intro (And.intro (And.intro sz106 (And.intro ag106 zv106)) (And.intro sb106 (And.intro un106 el106))) (And.intro (And.intro ap106 (And.intro sz108 ag108)) (And.intro zv108 (And.intro fl108_0 pl108)))) (And.intro (And.intro (And.intro sz111 (And.intro ag111 zv111)) (And.intro sb111 (And.intro un111 el111))) (And.intro (And.intro ap111 (And.intro sz113 ag113)) (And.intro (And.intro zv113 fl113_0) (And.intro pl113 okf153)))))
theorem toQuery_q (t : List Cmp) (h : okQr (2^20) t) (H0 : FnP Try.prog 153 [slT eCmp t] (slT eCmp t)) : FnS Try.prog 68 [] [agT (eQr t)] [] (agT (eQr t)) := by
  refine FnS.go [0, 1, 2, 3] [] Try.func68 rfl (fun kt kz => ?_)
  have fcx := fc68
  simp only [Try.f68]
  have ho := okQr_iff.1 h
  refine Run (@eQr_eta) ?_; repeat' (first | (with_reducible exact True.intro) | (with_reducible refine Lf.mk ?_ ?_) | (with_reducible intro hb))
  refine CalI (@eQr_eta) (H0) ?_
  refine Run (@eQr_eta) ?_; repeat' (first | (with_reducible exact True.intro) | (with_reducible refine Lf.mk ?_ ?_) | (with_reducible intro hb))

mutual
theorem toHead_ok (t : Hd) (h : okHd (2^20) t) : FnP Try.prog 282 [agT (eHd t)] (agT (eHd t)) := toHead_q t h (toHeadS_q t.parts ((okHd_iff'.1 h).2.2.2.1) (fun u hu => toHead_ok u (((okHd_iff'.1 h).2.2.2.1).2 u hu))) (toQuery_q t.query ((okHd_iff'.1 h).2.2.2.2) (toCompS_q t.query (okQr_iff.1 ((okHd_iff'.1 h).2.2.2.2)) (fun u hu => toComp_ok u ((okQr_iff.1 ((okHd_iff'.1 h).2.2.2.2)).2 u hu))))
termination_by SizeOf.sizeOf t
decreasing_by all_goals first | exact Ty.mem hu | exact Val.mem hu | exact Tm.mem hu | exact Pl.mem hu | exact Hd.memP hu | exact Hd.memQ hu | exact Cmp.memH _
theorem toComp_ok (t : Cmp) (h : okCmp (2^20) t) : FnP Try.prog 232 [agT (eCmp t)] (agT (eCmp t)) := toComp_q t h (toHead_ok t.head ((okCmp_iff.1 h).2.2))
termination_by SizeOf.sizeOf t
decreasing_by all_goals first | exact Ty.mem hu | exact Val.mem hu | exact Tm.mem hu | exact Pl.mem hu | exact Hd.memP hu | exact Hd.memQ hu | exact Cmp.memH _
end
theorem toHeadS_ok (xs : List Hd) (h : okLs (2^20) okHd xs) : FnP Try.prog 321 [slT eHd xs] (slT eHd xs) := toHeadS_q xs h (fun t ht => toHead_ok t (h.2 t ht))
theorem toCompS_ok (xs : List Cmp) (h : okLs (2^20) okCmp xs) : FnP Try.prog 153 [slT eCmp xs] (slT eCmp xs) := toCompS_q xs h (fun t ht => toComp_ok t (h.2 t ht))
theorem toQuery_ok (t : List Cmp) (h : okQr (2^20) t) : FnP Try.prog 68 [agT (eQr t)] (agT (eQr t)) := toQuery_q t h (toCompS_q t (okQr_iff.1 h) (fun u hu => toComp_ok u ((okQr_iff.1 h).2 u hu)))
def fc283 := (And.intro (And.intro (And.intro (And.intro (And.intro sz3 (And.intro ag3 zv3)) (And.intro un3 (And.intro sz4 ag4))) (And.intro (And.intro zv4 (And.intro un4 sz38)) (And.intro (And.intro ag38 zv38) (And.intro sb38 un38)))) (And.intro (And.intro (And.intro el38 (And.intro ap38 sz77)) (And.intro (And.intro ag77 zv77) (And.intro fl77_0 fl77_1))) (And.intro (And.intro fl77_2 (And.intro fl77_3 fl77_4)) (And.intro (And.intro fl77_5 pl77) (And.intro sz113 ag113))))) (And.intro (And.intro (And.intro (And.intro zv113 (And.intro fl113_0 pl113)) (And.intro sz212 (And.intro ag212 zv212))) (And.intro (And.intro sb212 (And.intro un212 el212)) (And.intro (And.intro ap212 sz214) (And.intro ag214 zv214)))) (And.intro (And.intro (And.intro fl214_0 (And.intro fl214_1 fl214_2)) (And.intro (And.intro fl214_3 fl214_4) (And.intro pl214 okf38))) (And.intro (And.intro okf70 (And.intro okf127 okf322)) (And.intro (And.intro sz9 sz74) (And.intro sz75 sz111))))))
theorem eqHead_of (t : Hd) (h : okHd (2^20) t) (H0 : FnP Try.prog 322 [slT eHd t.parts, slT eHd t.parts] (bT true)) (H1 : FnP Try.prog 70 [agT (eQr t.query), agT (eQr t.query)] (bT true)) : FnS Try.prog 283 [] [agT (eHd t), agT (eHd t)] [] (bT true) := by
  refine FnS.go [0, 1, 2, 3, 4, 9, 15, 21, 27, 33] [] Try.func283 rfl (fun kt kz => ?_)
  have fcx := fc283
  simp only [Try.f283]
  have ho := okHd_iff'.1 h
  refine Run ((And.intro (And.intro @eHd_eta @eTm_eta) (And.intro @eTy_eta @eQr_eta))) ?_; repeat' (first | (with_reducible exact True.intro) | (with_reducible refine Lf.mk ?_ ?_) | (with_reducible intro hb))
  refine Cal ((And.intro (And.intro @eHd_eta @eTm_eta) (And.intro @eTy_eta @eQr_eta))) (eqTerm_ok _ ho.2.1) ?_
  refine Run ((And.intro (And.intro @eHd_eta @eTm_eta) (And.intro @eTy_eta @eQr_eta))) ?_; repeat' (first | (with_reducible exact True.intro) | (with_reducible refine Lf.mk ?_ ?_) | (with_reducible intro hb))
  refine Cal ((And.intro (And.intro @eHd_eta @eTm_eta) (And.intro @eTy_eta @eQr_eta))) (eqStringS_rf _ ho.2.2.1) ?_
  refine Run ((And.intro (And.intro @eHd_eta @eTm_eta) (And.intro @eTy_eta @eQr_eta))) ?_; repeat' (first | (with_reducible exact True.intro) | (with_reducible refine Lf.mk ?_ ?_) | (with_reducible intro hb))
  refine Cal ((And.intro (And.intro @eHd_eta @eTm_eta) (And.intro @eTy_eta @eQr_eta))) (H0) ?_
  refine Run ((And.intro (And.intro @eHd_eta @eTm_eta) (And.intro @eTy_eta @eQr_eta))) ?_; repeat' (first | (with_reducible exact True.intro) | (with_reducible refine Lf.mk ?_ ?_) | (with_reducible intro hb))
  refine Cal ((And.intro (And.intro @eHd_eta @eTm_eta) (And.intro @eTy_eta @eQr_eta))) (H1) ?_
  refine Run ((And.intro (And.intro @eHd_eta @eTm_eta) (And.intro @eTy_eta @eQr_eta))) ?_; repeat' (first | (with_reducible exact True.intro) | (with_reducible refine Lf.mk ?_ ?_) | (with_reducible intro hb))
def fc322 := (And.intro (And.intro (And.intro (And.intro sz3 (And.intro ag3 zv3)) (And.intro (And.intro un3 sz4) (And.intro ag4 zv4))) (And.intro (And.intro un4 (And.intro sz212 ag212)) (And.intro (And.intro zv212 sb212) (And.intro un212 el212)))) (And.intro (And.intro (And.intro ap212 (And.intro sz214 ag214)) (And.intro (And.intro zv214 fl214_0) (And.intro fl214_1 fl214_2))) (And.intro (And.intro fl214_3 (And.intro fl214_4 pl214)) (And.intro (And.intro okf283 sz77) (And.intro sz38 sz113)))))
theorem eqHeadS_of (xs : List Hd) (hx : okLs (2^20) okHd xs) (H : ∀ t ∈ xs, FnP Try.prog 283 [agT (eHd t), agT (eHd t)] (bT true)) : FnS Try.prog 322 [] [slT eHd xs, slT eHd xs] [] (bT true) := by
  refine FnS.go [0, 1, 4, 5, 10, 14, 26] [] Try.func322 rfl (fun kt kz => ?_)
  have fcx := fc322
  simp only [Try.f322]
  have hx1 := hx.1
  refine Run (cast_succ) ?_; repeat' (first | (with_reducible exact True.intro) | (with_reducible refine Lf.mk ?_ ?_) | (with_reducible intro hb))
  refine Trn (α := Nat) [4, 5, 11, 12, 13, 14, 15, 16, 17, 18, 19, 20, 21, 22, 23, 24, 25, 26] (fun i => [(5, iT i)]) (fun i => []) (fun i => i ≤ xs.length) (fun i => xs.length - i) (0) (Nat.zero_le _) (cast_succ) ?_; intro lx hI; obtain i := lx; (try simp only [List.nil_append, List.cons_append] at hI ⊢)
  refine Run ((And.intro (And.intro @eHd_eta @eTm_eta) (And.intro @eTy_eta @eQr_eta))) ?_; repeat' (first | (with_reducible exact True.intro) | (with_reducible refine Lf.mk ?_ ?_) | (with_reducible intro hb))
  · refine Cal ((And.intro (And.intro @eHd_eta @eTm_eta) (And.intro @eTy_eta @eQr_eta))) (H _ (List.getElem_mem hb)) ?_
    refine Run ((And.intro (And.intro @eHd_eta @eTm_eta) (And.intro @eTy_eta @eQr_eta))) ?_; repeat' (first | (with_reducible exact True.intro) | (with_reducible refine Lf.mk ?_ ?_) | (with_reducible intro hb))
    exact Nxt (cast_succ) (lx + 1) (by omega) (by first | omega | (simp; omega))
def fc233 := (And.intro (And.intro (And.intro (And.intro (And.intro sz4 ag4) (And.intro zv4 (And.intro un4 sz77))) (And.intro (And.intro ag77 (And.intro zv77 fl77_0)) (And.intro fl77_1 (And.intro fl77_2 fl77_3)))) (And.intro (And.intro (And.intro fl77_4 (And.intro fl77_5 pl77)) (And.intro sz195 (And.intro ag195 zv195))) (And.intro (And.intro sb195 (And.intro un195 el195)) (And.intro ap195 (And.intro sz214 ag214))))) (And.intro (And.intro (And.intro (And.intro zv214 (And.intro fl214_0 fl214_1)) (And.intro fl214_2 (And.intro fl214_3 fl214_4))) (And.intro (And.intro pl214 (And.intro sz216 ag216)) (And.intro zv216 (And.intro fl216_0 fl216_1)))) (And.intro (And.intro (And.intro fl216_2 (And.intro pl216 okf127)) (And.intro okf277 (And.intro okf283 sz3))) (And.intro (And.intro sz9 (And.intro sz74 sz38)) (And.intro sz75 (And.intro sz212 sz113))))))
theorem eqComp_of (t : Cmp) (h : okCmp (2^20) t) (H0 : FnP Try.prog 283 [agT (eHd t.head), agT (eHd t.head)] (bT true)) : FnS Try.prog 233 [] [agT (eCmp t), agT (eCmp t)] [] (bT true) := by
  refine FnS.go [0, 1, 2, 3, 4, 10, 16, 22] [] Try.func233 rfl (fun kt kz => ?_)
  have fcx := fc233
  simp only [Try.f233]
  have ho := okCmp_iff.1 h
  refine Run ((And.intro (And.intro @eCmp_eta @eTm_eta) (And.intro @eTy_eta (And.intro @eHd_eta @eQr_eta)))) ?_; repeat' (first | (with_reducible exact True.intro) | (with_reducible refine Lf.mk ?_ ?_) | (with_reducible intro hb))
  refine Cal ((And.intro (And.intro @eCmp_eta @eTm_eta) (And.intro @eTy_eta (And.intro @eHd_eta @eQr_eta)))) (eqGenS_ok _ ho.1) ?_
  refine Run ((And.intro (And.intro @eCmp_eta @eTm_eta) (And.intro @eTy_eta (And.intro @eHd_eta @eQr_eta)))) ?_; repeat' (first | (with_reducible exact True.intro) | (with_reducible refine Lf.mk ?_ ?_) | (with_reducible intro hb))
  refine Cal ((And.intro (And.intro @eCmp_eta @eTm_eta) (And.intro @eTy_eta (And.intro @eHd_eta @eQr_eta)))) (eqTerm_ok _ ho.2.1) ?_
  refine Run ((And.intro (And.intro @eCmp_eta @eTm_eta) (And.intro @eTy_eta (And.intro @eHd_eta @eQr_eta)))) ?_; repeat' (first | (with_reducible exact True.intro) | (with_reducible refine Lf.mk ?_ ?_) | (with_reducible intro hb))
  refine Cal ((And.intro (And.intro @eCmp_eta @eTm_eta) (And.intro @eTy_eta (And.intro @eHd_eta @eQr_eta)))) (H0) ?_
  refine Run ((And.intro (And.intro @eCmp_eta @eTm_eta) (And.intro @eTy_eta (And.intro @eHd_eta @eQr_eta)))) ?_; repeat' (first | (with_reducible exact True.intro) | (with_reducible refine Lf.mk ?_ ?_) | (with_reducible intro hb))
def fc156 := (And.intro (And.intro (And.intro (And.intro sz3 (And.intro ag3 zv3)) (And.intro un3 (And.intro sz4 ag4))) (And.intro (And.intro zv4 (And.intro un4 sz111)) (And.intro (And.intro ag111 zv111) (And.intro sb111 un111)))) (And.intro (And.intro (And.intro el111 (And.intro ap111 sz216)) (And.intro ag216 (And.intro zv216 fl216_0))) (And.intro (And.intro fl216_1 (And.intro fl216_2 pl216)) (And.intro (And.intro okf233 sz195) (And.intro sz77 sz214)))))
theorem eqCompS_of (xs : List Cmp) (hx : okLs (2^20) okCmp xs) (H : ∀ t ∈ xs, FnP Try.prog 233 [agT (eCmp t), agT (eCmp t)] (bT true)) : FnS Try.prog 156 [] [slT eCmp xs, slT eCmp xs] [] (bT true) := by
  refine FnS.go [0, 1, 4, 5, 10, 14, 26] [] Try.func156 rfl (fun kt kz => ?_)
  have fcx := fc156
  simp only [Try.f156]
  have hx1 := hx.1
  refine Run (cast_succ) ?_; repeat' (first | (with_reducible exact True.intro) | (with_reducible refine Lf.mk ?_ ?_) | (with_reducible intro hb))
  refine Trn (α := Nat) [4, 5, 11, 12, 13, 14, 15, 16, 17, 18, 19, 20, 21, 22, 23, 24, 25, 26] (fun i => [(5, iT i)]) (fun i => []) (fun i => i ≤ xs.length) (fun i => xs.length - i) (0) (Nat.zero_le _) (cast_succ) ?_; intro lx hI; obtain i := lx; (try simp only [List.nil_append, List.cons_append] at hI ⊢)
  refine Run ((And.intro (And.intro @eCmp_eta @eTm_eta) (And.intro @eTy_eta (And.intro @eHd_eta @eQr_eta)))) ?_; repeat' (first | (with_reducible exact True.intro) | (with_reducible refine Lf.mk ?_ ?_) | (with_reducible intro hb))
  · refine Cal ((And.intro (And.intro @eCmp_eta @eTm_eta) (And.intro @eTy_eta (And.intro @eHd_eta @eQr_eta)))) (H _ (List.getElem_mem hb)) ?_
    refine Run ((And.intro (And.intro @eCmp_eta @eTm_eta) (And.intro @eTy_eta (And.intro @eHd_eta @eQr_eta)))) ?_; repeat' (first | (with_reducible exact True.intro) | (with_reducible refine Lf.mk ?_ ?_) | (with_reducible intro hb))
    exact Nxt (cast_succ) (lx + 1) (by omega) (by first | omega | (simp; omega))
def fc70 := (And.intro (And.intro (And.intro (And.intro sz4 ag4) (And.intro zv4 un4)) (And.intro (And.intro sz111 ag111) (And.intro zv111 sb111))) (And.intro (And.intro (And.intro un111 el111) (And.intro ap111 sz113)) (And.intro (And.intro ag113 zv113) (And.intro fl113_0 (And.intro pl113 okf156)))))
theorem eqQuery_of (t : List Cmp) (h : okQr (2^20) t) (H0 : FnP Try.prog 156 [slT eCmp t, slT eCmp t] (bT true)) : FnS Try.prog 70 [] [agT (eQr t), agT (eQr t)] [] (bT true) := by
  refine FnS.go [0, 1, 2, 3, 4, 10] [] Try.func70 rfl (fun kt kz => ?_)
  have fcx := fc70
  simp only [Try.f70]
  have ho := okQr_iff.1 h
  refine Run (@eQr_eta) ?_; repeat' (first | (with_reducible exact True.intro) | (with_reducible refine Lf.mk ?_ ?_) | (with_reducible intro hb))
  refine Cal (@eQr_eta) (H0) ?_
  refine Run (@eQr_eta) ?_; repeat' (first | (with_reducible exact True.intro) | (with_reducible refine Lf.mk ?_ ?_) | (with_reducible intro hb))

mutual
theorem eqHead_ok (t : Hd) (h : okHd (2^20) t) : FnP Try.prog 283 [agT (eHd t), agT (eHd t)] (bT true) := eqHead_of t h (eqHeadS_of t.parts ((okHd_iff'.1 h).2.2.2.1) (fun u hu => eqHead_ok u (((okHd_iff'.1 h).2.2.2.1).2 u hu))) (eqQuery_of t.query ((okHd_iff'.1 h).2.2.2.2) (eqCompS_of t.query (okQr_iff.1 ((okHd_iff'.1 h).2.2.2.2)) (fun u hu => eqComp_ok u ((okQr_iff.1 ((okHd_iff'.1 h).2.2.2.2)).2 u hu))))
termination_by SizeOf.sizeOf t
decreasing_by all_goals first | exact Ty.mem hu | exact Val.mem hu | exact Tm.mem hu | exact Pl.mem hu | exact Hd.memP hu | exact Hd.memQ hu | exact Cmp.memH _
theorem eqComp_ok (t : Cmp) (h : okCmp (2^20) t) : FnP Try.prog 233 [agT (eCmp t), agT (eCmp t)] (bT true) := eqComp_of t h (eqHead_ok t.head ((okCmp_iff.1 h).2.2))
termination_by SizeOf.sizeOf t
decreasing_by all_goals first | exact Ty.mem hu | exact Val.mem hu | exact Tm.mem hu | exact Pl.mem hu | exact Hd.memP hu | exact Hd.memQ hu | exact Cmp.memH _
end
theorem eqHeadS_ok (xs : List Hd) (h : okLs (2^20) okHd xs) : FnP Try.prog 322 [slT eHd xs, slT eHd xs] (bT true) := eqHeadS_of xs h (fun t ht => eqHead_ok t (h.2 t ht))
theorem eqCompS_ok (xs : List Cmp) (h : okLs (2^20) okCmp xs) : FnP Try.prog 156 [slT eCmp xs, slT eCmp xs] (bT true) := eqCompS_of xs h (fun t ht => eqComp_ok t (h.2 t ht))
theorem eqQuery_ok (t : List Cmp) (h : okQr (2^20) t) : FnP Try.prog 70 [agT (eQr t), agT (eQr t)] (bT true) := eqQuery_of t h (eqCompS_of t (okQr_iff.1 h) (fun u hu => eqComp_ok u ((okQr_iff.1 h).2 u hu)))

end Go.VC.T
