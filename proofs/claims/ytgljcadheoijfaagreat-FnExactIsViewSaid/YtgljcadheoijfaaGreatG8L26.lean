/- Operations' types, arities, terms of normal queries: the reference. -/
import Derived.Test.YtgljcadheoijfaaGreatG7L26
import Derived.Test.YtgljcadheoijfaaGreatGW4
namespace Go.VC
open Go
noncomputable def arS (e : Tm) : Int := if e.kind = 1 ∨ e.kind = 2 ∨ e.kind = 3 ∨ e.kind = 7 ∨ e.kind = 12 then 0 else if e.kind = 4 then (opAr e.name : Int) else if e.kind = 5 then (e.labels.length : Int) else if e.kind = 6 ∨ e.kind = 8 ∨ e.kind = 13 ∨ e.kind = 15 ∨ e.kind = 16 then 1 else if e.kind = 9 ∨ e.kind = 10 ∨ e.kind = 14 then 2 else if e.kind = 11 then 3 else -1
theorem nd_leaf {e : Tm} (h : NdOk e) (k : e.kind = 1) : e.args.length = 0 := by
  have := h.1
  unfold arK at this
  rw [if_pos (.inl k)] at this
  exact (Option.some.inj this).symm
end Go.VC
namespace Go.VC.T
open Go Go.VC Go.Proofs Go.VC.F
set_option linter.unusedSimpArgs false
set_option linter.unusedVariables false
set_option linter.defProp false
set_option maxRecDepth 100000
set_option maxHeartbeats 2000000
def fc124A94 := (And.intro (And.intro (And.intro (And.intro sz3 (And.intro ag3 zv3)) (And.intro (And.intro un3 sz4) (And.intro ag4 zv4))) (And.intro (And.intro un4 (And.intro sz9 ag9)) (And.intro (And.intro zv9 un9) (And.intro sz41 ag41)))) (And.intro (And.intro (And.intro zv41 (And.intro sb41 un41)) (And.intro (And.intro el41 ap41) (And.intro sz43 ag43))) (And.intro (And.intro (And.intro zv43 fl43_0) (And.intro fl43_1 fl43_2)) (And.intro (And.intro pl43 okf30) (And.intro okf123 sz25)))))
theorem sOp_43_a (t : List Ty) (h : t.length ≤ 2^20) (ha : (t.any fun a => !decide (a.kind = 1)) = false) : FnS Tryz.prog 124 [] [sT ⟨#[43]⟩, slT eTy t] [] (.tp [agT (eTy tInt), bT true]) := by
  refine FnS.go [0, 1, 4, 5, 6, 7, 17, 21, 30, 37] [] Tryz.func124 rfl (fun kt kz => ?_)
  have fcx := fc124A94
  simp only [Tryz.f124]
  have n38 : ((⟨#[43]⟩ : ByteArray) = ⟨#[38]⟩) = False := eq_false (by simp)
  have n124 : ((⟨#[43]⟩ : ByteArray) = ⟨#[124]⟩) = False := eq_false (by simp)
  have n33 : ((⟨#[43]⟩ : ByteArray) = ⟨#[33]⟩) = False := eq_false (by simp)
  have n45 : ((⟨#[43]⟩ : ByteArray) = ⟨#[45]⟩) = False := eq_false (by simp)
  refine Run ((And.intro (And.intro @n38 @n124) (And.intro @n33 @n45))) ?_; repeat' (first | (with_reducible exact True.intro) | (with_reducible refine Lf.mk ?_ ?_) | (with_reducible intro hb))
  refine Trn (α := Nat) [5, 7, 18, 19, 20, 21, 22, 23, 24, 25, 26, 27, 28, 29, 30, 31] (fun i => [(7, iT i)]) (fun i => [(8, .box 43 [.im (.sc (.int .i64 0)), .nl, .nl])]) (fun i => i ≤ t.length ∧ (t.take i).any (fun a => !decide (a.kind = 1)) = false) (fun i => t.length - i) (0) (⟨Nat.zero_le _, rfl⟩) ((And.intro (And.intro @n38 @n124) (And.intro @n33 @n45))) ?_; intro lx hI; obtain i := lx; (try simp only [List.nil_append, List.cons_append] at hI ⊢)
  by_cases hlt : lx < t.length
  · by_cases hk : t[lx].kind = 1
    · have gk := eq_true hk
      refine Run ((And.intro (And.intro @eTy_eta (And.intro @hlt @gk)) (And.intro (And.intro @n38 @n124) (And.intro @n33 @n45)))) ?_; repeat' (first | (with_reducible exact True.intro) | (with_reducible refine Lf.mk ?_ ?_) | (with_reducible intro hb))
      exact Nxt (@eTy_eta) (lx + 1) (⟨by omega, any_take hlt hI.2 (by simp [hk])⟩) (by first | omega | (simp; omega))
    · have := List.any_eq_false.1 ha _ (List.getElem_mem hlt)
      simp [hk] at this
  · refine Run ((And.intro (And.intro @hlt @n38) (And.intro @n124 (And.intro @n33 @n45)))) ?_; repeat' (first | (with_reducible exact True.intro) | (with_reducible refine Lf.mk ?_ ?_) | (with_reducible intro hb))
    refine CalI (@eTy_eta) (sInt_t) ?_
    refine Run (@eTy_eta) ?_; repeat' (first | (with_reducible exact True.intro) | (with_reducible refine Lf.mk ?_ ?_) | (with_reducible intro hb))
theorem sOp_43_b (t : List Ty) (h : t.length ≤ 2^20) (ha : (t.any fun a => !decide (a.kind = 1)) = true) : FnS Tryz.prog 124 [] [sT ⟨#[43]⟩, slT eTy t] [] (.tp [.ag [.im (.sc (.int .i64 0)), .nl, .nl], bT false]) := by
  refine FnS.go [0, 1, 4, 5, 6, 7, 17, 21, 30, 37] [] Tryz.func124 rfl (fun kt kz => ?_)
  have fcx := fc124A94
  simp only [Tryz.f124]
  have n38 : ((⟨#[43]⟩ : ByteArray) = ⟨#[38]⟩) = False := eq_false (by simp)
  have n124 : ((⟨#[43]⟩ : ByteArray) = ⟨#[124]⟩) = False := eq_false (by simp)
  have n33 : ((⟨#[43]⟩ : ByteArray) = ⟨#[33]⟩) = False := eq_false (by simp)
  have n45 : ((⟨#[43]⟩ : ByteArray) = ⟨#[45]⟩) = False := eq_false (by simp)
  refine Run ((And.intro (And.intro @n38 @n124) (And.intro @n33 @n45))) ?_; repeat' (first | (with_reducible exact True.intro) | (with_reducible refine Lf.mk ?_ ?_) | (with_reducible intro hb))
  refine Trn (α := Nat) [5, 7, 18, 19, 20, 21, 22, 23, 24, 25, 26, 27, 28, 29, 30, 31] (fun i => [(7, iT i)]) (fun i => [(8, .box 43 [.im (.sc (.int .i64 0)), .nl, .nl])]) (fun i => i ≤ t.length ∧ (t.take i).any (fun a => !decide (a.kind = 1)) = false) (fun i => t.length - i) (0) (⟨Nat.zero_le _, rfl⟩) ((And.intro (And.intro @n38 @n124) (And.intro @n33 @n45))) ?_; intro lx hI; obtain i := lx; (try simp only [List.nil_append, List.cons_append] at hI ⊢)
  by_cases hlt : lx < t.length
  · by_cases hk : t[lx].kind = 1
    · have gk := eq_true hk
      refine Run ((And.intro (And.intro @eTy_eta (And.intro @hlt @gk)) (And.intro (And.intro @n38 @n124) (And.intro @n33 @n45)))) ?_; repeat' (first | (with_reducible exact True.intro) | (with_reducible refine Lf.mk ?_ ?_) | (with_reducible intro hb))
      exact Nxt (@eTy_eta) (lx + 1) (⟨by omega, any_take hlt hI.2 (by simp [hk])⟩) (by first | omega | (simp; omega))
    · have gk := eq_false hk
      refine Run ((And.intro (And.intro @eTy_eta (And.intro @hlt @gk)) (And.intro (And.intro @n38 @n124) (And.intro @n33 @n45)))) ?_; repeat' (first | (with_reducible exact True.intro) | (with_reducible refine Lf.mk ?_ ?_) | (with_reducible intro hb))
  · rw [any_all (by omega) hI.2] at ha
    cases ha
theorem sOp_45_a (t : List Ty) (h : t.length ≤ 2^20) (ha : (t.any fun a => !decide (a.kind = 1)) = false) : FnS Tryz.prog 124 [] [sT ⟨#[45]⟩, slT eTy t] [] (.tp [agT (eTy tInt), bT true]) := by
  refine FnS.go [0, 1, 4, 5, 6, 7, 17, 21, 30, 37] [] Tryz.func124 rfl (fun kt kz => ?_)
  have fcx := fc124A94
  simp only [Tryz.f124]
  have n38 : ((⟨#[45]⟩ : ByteArray) = ⟨#[38]⟩) = False := eq_false (by simp)
  have n124 : ((⟨#[45]⟩ : ByteArray) = ⟨#[124]⟩) = False := eq_false (by simp)
  have n33 : ((⟨#[45]⟩ : ByteArray) = ⟨#[33]⟩) = False := eq_false (by simp)
  have n43 : ((⟨#[45]⟩ : ByteArray) = ⟨#[43]⟩) = False := eq_false (by simp)
  refine Run ((And.intro (And.intro @n38 @n124) (And.intro @n33 @n43))) ?_; repeat' (first | (with_reducible exact True.intro) | (with_reducible refine Lf.mk ?_ ?_) | (with_reducible intro hb))
  refine Trn (α := Nat) [5, 7, 18, 19, 20, 21, 22, 23, 24, 25, 26, 27, 28, 29, 30, 31] (fun i => [(7, iT i)]) (fun i => [(8, .box 43 [.im (.sc (.int .i64 0)), .nl, .nl])]) (fun i => i ≤ t.length ∧ (t.take i).any (fun a => !decide (a.kind = 1)) = false) (fun i => t.length - i) (0) (⟨Nat.zero_le _, rfl⟩) ((And.intro (And.intro @n38 @n124) (And.intro @n33 @n43))) ?_; intro lx hI; obtain i := lx; (try simp only [List.nil_append, List.cons_append] at hI ⊢)
  by_cases hlt : lx < t.length
  · by_cases hk : t[lx].kind = 1
    · have gk := eq_true hk
      refine Run ((And.intro (And.intro @eTy_eta (And.intro @hlt @gk)) (And.intro (And.intro @n38 @n124) (And.intro @n33 @n43)))) ?_; repeat' (first | (with_reducible exact True.intro) | (with_reducible refine Lf.mk ?_ ?_) | (with_reducible intro hb))
      exact Nxt (@eTy_eta) (lx + 1) (⟨by omega, any_take hlt hI.2 (by simp [hk])⟩) (by first | omega | (simp; omega))
    · have := List.any_eq_false.1 ha _ (List.getElem_mem hlt)
      simp [hk] at this
  · refine Run ((And.intro (And.intro @hlt @n38) (And.intro @n124 (And.intro @n33 @n43)))) ?_; repeat' (first | (with_reducible exact True.intro) | (with_reducible refine Lf.mk ?_ ?_) | (with_reducible intro hb))
    refine CalI (@eTy_eta) (sInt_t) ?_
    refine Run (@eTy_eta) ?_; repeat' (first | (with_reducible exact True.intro) | (with_reducible refine Lf.mk ?_ ?_) | (with_reducible intro hb))
theorem sOp_45_b (t : List Ty) (h : t.length ≤ 2^20) (ha : (t.any fun a => !decide (a.kind = 1)) = true) : FnS Tryz.prog 124 [] [sT ⟨#[45]⟩, slT eTy t] [] (.tp [.ag [.im (.sc (.int .i64 0)), .nl, .nl], bT false]) := by
  refine FnS.go [0, 1, 4, 5, 6, 7, 17, 21, 30, 37] [] Tryz.func124 rfl (fun kt kz => ?_)
  have fcx := fc124A94
  simp only [Tryz.f124]
  have n38 : ((⟨#[45]⟩ : ByteArray) = ⟨#[38]⟩) = False := eq_false (by simp)
  have n124 : ((⟨#[45]⟩ : ByteArray) = ⟨#[124]⟩) = False := eq_false (by simp)
  have n33 : ((⟨#[45]⟩ : ByteArray) = ⟨#[33]⟩) = False := eq_false (by simp)
  have n43 : ((⟨#[45]⟩ : ByteArray) = ⟨#[43]⟩) = False := eq_false (by simp)
  refine Run ((And.intro (And.intro @n38 @n124) (And.intro @n33 @n43))) ?_; repeat' (first | (with_reducible exact True.intro) | (with_reducible refine Lf.mk ?_ ?_) | (with_reducible intro hb))
  refine Trn (α := Nat) [5, 7, 18, 19, 20, 21, 22, 23, 24, 25, 26, 27, 28, 29, 30, 31] (fun i => [(7, iT i)]) (fun i => [(8, .box 43 [.im (.sc (.int .i64 0)), .nl, .nl])]) (fun i => i ≤ t.length ∧ (t.take i).any (fun a => !decide (a.kind = 1)) = false) (fun i => t.length - i) (0) (⟨Nat.zero_le _, rfl⟩) ((And.intro (And.intro @n38 @n124) (And.intro @n33 @n43))) ?_; intro lx hI; obtain i := lx; (try simp only [List.nil_append, List.cons_append] at hI ⊢)
  by_cases hlt : lx < t.length
  · by_cases hk : t[lx].kind = 1
    · have gk := eq_true hk
      refine Run ((And.intro (And.intro @eTy_eta (And.intro @hlt @gk)) (And.intro (And.intro @n38 @n124) (And.intro @n33 @n43)))) ?_; repeat' (first | (with_reducible exact True.intro) | (with_reducible refine Lf.mk ?_ ?_) | (with_reducible intro hb))
      exact Nxt (@eTy_eta) (lx + 1) (⟨by omega, any_take hlt hI.2 (by simp [hk])⟩) (by first | omega | (simp; omega))
    · have gk := eq_false hk
      refine Run ((And.intro (And.intro @eTy_eta (And.intro @hlt @gk)) (And.intro (And.intro @n38 @n124) (And.intro @n33 @n43)))) ?_; repeat' (first | (with_reducible exact True.intro) | (with_reducible refine Lf.mk ?_ ?_) | (with_reducible intro hb))
  · rw [any_all (by omega) hI.2] at ha
    cases ha
theorem sOp_61_a (t : List Ty) (h : t.length ≤ 2^20) (ha : (t.any fun a => !decide (a.kind = 1)) = false) : FnS Tryz.prog 124 [] [sT ⟨#[61]⟩, slT eTy t] [] (.tp [agT (eTy tBool), bT true]) := by
  refine FnS.go [0, 1, 4, 5, 6, 7, 17, 21, 30, 37] [] Tryz.func124 rfl (fun kt kz => ?_)
  have fcx := fc124A94
  simp only [Tryz.f124]
  have n38 : ((⟨#[61]⟩ : ByteArray) = ⟨#[38]⟩) = False := eq_false (by simp)
  have n124 : ((⟨#[61]⟩ : ByteArray) = ⟨#[124]⟩) = False := eq_false (by simp)
  have n33 : ((⟨#[61]⟩ : ByteArray) = ⟨#[33]⟩) = False := eq_false (by simp)
  have n43 : ((⟨#[61]⟩ : ByteArray) = ⟨#[43]⟩) = False := eq_false (by simp)
  have n45 : ((⟨#[61]⟩ : ByteArray) = ⟨#[45]⟩) = False := eq_false (by simp)
  refine Run ((And.intro (And.intro @n38 @n124) (And.intro @n33 (And.intro @n43 @n45)))) ?_; repeat' (first | (with_reducible exact True.intro) | (with_reducible refine Lf.mk ?_ ?_) | (with_reducible intro hb))
  refine Trn (α := Nat) [5, 7, 18, 19, 20, 21, 22, 23, 24, 25, 26, 27, 28, 29, 30, 31] (fun i => [(7, iT i)]) (fun i => [(8, .box 43 [.im (.sc (.int .i64 0)), .nl, .nl])]) (fun i => i ≤ t.length ∧ (t.take i).any (fun a => !decide (a.kind = 1)) = false) (fun i => t.length - i) (0) (⟨Nat.zero_le _, rfl⟩) ((And.intro (And.intro @n38 @n124) (And.intro @n33 (And.intro @n43 @n45)))) ?_; intro lx hI; obtain i := lx; (try simp only [List.nil_append, List.cons_append] at hI ⊢)
  by_cases hlt : lx < t.length
  · by_cases hk : t[lx].kind = 1
    · have gk := eq_true hk
      refine Run ((And.intro (And.intro (And.intro @eTy_eta @hlt) (And.intro @gk @n38)) (And.intro (And.intro @n124 @n33) (And.intro @n43 @n45)))) ?_; repeat' (first | (with_reducible exact True.intro) | (with_reducible refine Lf.mk ?_ ?_) | (with_reducible intro hb))
      exact Nxt (@eTy_eta) (lx + 1) (⟨by omega, any_take hlt hI.2 (by simp [hk])⟩) (by first | omega | (simp; omega))
    · have := List.any_eq_false.1 ha _ (List.getElem_mem hlt)
      simp [hk] at this
  · refine Run ((And.intro (And.intro @hlt (And.intro @n38 @n124)) (And.intro @n33 (And.intro @n43 @n45)))) ?_; repeat' (first | (with_reducible exact True.intro) | (with_reducible refine Lf.mk ?_ ?_) | (with_reducible intro hb))
    refine CalI (@eTy_eta) (sBool_t) ?_
    refine Run (@eTy_eta) ?_; repeat' (first | (with_reducible exact True.intro) | (with_reducible refine Lf.mk ?_ ?_) | (with_reducible intro hb))
theorem sOp_61_b (t : List Ty) (h : t.length ≤ 2^20) (ha : (t.any fun a => !decide (a.kind = 1)) = true) : FnS Tryz.prog 124 [] [sT ⟨#[61]⟩, slT eTy t] [] (.tp [.ag [.im (.sc (.int .i64 0)), .nl, .nl], bT false]) := by
  refine FnS.go [0, 1, 4, 5, 6, 7, 17, 21, 30, 37] [] Tryz.func124 rfl (fun kt kz => ?_)
  have fcx := fc124A94
  simp only [Tryz.f124]
  have n38 : ((⟨#[61]⟩ : ByteArray) = ⟨#[38]⟩) = False := eq_false (by simp)
  have n124 : ((⟨#[61]⟩ : ByteArray) = ⟨#[124]⟩) = False := eq_false (by simp)
  have n33 : ((⟨#[61]⟩ : ByteArray) = ⟨#[33]⟩) = False := eq_false (by simp)
  have n43 : ((⟨#[61]⟩ : ByteArray) = ⟨#[43]⟩) = False := eq_false (by simp)
  have n45 : ((⟨#[61]⟩ : ByteArray) = ⟨#[45]⟩) = False := eq_false (by simp)
  refine Run ((And.intro (And.intro @n38 @n124) (And.intro @n33 (And.intro @n43 @n45)))) ?_; repeat' (first | (with_reducible exact True.intro) | (with_reducible refine Lf.mk ?_ ?_) | (with_reducible intro hb))
  refine Trn (α := Nat) [5, 7, 18, 19, 20, 21, 22, 23, 24, 25, 26, 27, 28, 29, 30, 31] (fun i => [(7, iT i)]) (fun i => [(8, .box 43 [.im (.sc (.int .i64 0)), .nl, .nl])]) (fun i => i ≤ t.length ∧ (t.take i).any (fun a => !decide (a.kind = 1)) = false) (fun i => t.length - i) (0) (⟨Nat.zero_le _, rfl⟩) ((And.intro (And.intro @n38 @n124) (And.intro @n33 (And.intro @n43 @n45)))) ?_; intro lx hI; obtain i := lx; (try simp only [List.nil_append, List.cons_append] at hI ⊢)
  by_cases hlt : lx < t.length
  · by_cases hk : t[lx].kind = 1
    · have gk := eq_true hk
      refine Run ((And.intro (And.intro (And.intro @eTy_eta @hlt) (And.intro @gk @n38)) (And.intro (And.intro @n124 @n33) (And.intro @n43 @n45)))) ?_; repeat' (first | (with_reducible exact True.intro) | (with_reducible refine Lf.mk ?_ ?_) | (with_reducible intro hb))
      exact Nxt (@eTy_eta) (lx + 1) (⟨by omega, any_take hlt hI.2 (by simp [hk])⟩) (by first | omega | (simp; omega))
    · have gk := eq_false hk
      refine Run ((And.intro (And.intro (And.intro @eTy_eta @hlt) (And.intro @gk @n38)) (And.intro (And.intro @n124 @n33) (And.intro @n43 @n45)))) ?_; repeat' (first | (with_reducible exact True.intro) | (with_reducible refine Lf.mk ?_ ?_) | (with_reducible intro hb))
  · rw [any_all (by omega) hI.2] at ha
    cases ha
theorem sOp_60_a (t : List Ty) (h : t.length ≤ 2^20) (ha : (t.any fun a => !decide (a.kind = 1)) = false) : FnS Tryz.prog 124 [] [sT ⟨#[60]⟩, slT eTy t] [] (.tp [agT (eTy tBool), bT true]) := by
  refine FnS.go [0, 1, 4, 5, 6, 7, 17, 21, 30, 37] [] Tryz.func124 rfl (fun kt kz => ?_)
  have fcx := fc124A94
  simp only [Tryz.f124]
  have n38 : ((⟨#[60]⟩ : ByteArray) = ⟨#[38]⟩) = False := eq_false (by simp)
  have n124 : ((⟨#[60]⟩ : ByteArray) = ⟨#[124]⟩) = False := eq_false (by simp)
  have n33 : ((⟨#[60]⟩ : ByteArray) = ⟨#[33]⟩) = False := eq_false (by simp)
  have n43 : ((⟨#[60]⟩ : ByteArray) = ⟨#[43]⟩) = False := eq_false (by simp)
  have n45 : ((⟨#[60]⟩ : ByteArray) = ⟨#[45]⟩) = False := eq_false (by simp)
  refine Run ((And.intro (And.intro @n38 @n124) (And.intro @n33 (And.intro @n43 @n45)))) ?_; repeat' (first | (with_reducible exact True.intro) | (with_reducible refine Lf.mk ?_ ?_) | (with_reducible intro hb))
  refine Trn (α := Nat) [5, 7, 18, 19, 20, 21, 22, 23, 24, 25, 26, 27, 28, 29, 30, 31] (fun i => [(7, iT i)]) (fun i => [(8, .box 43 [.im (.sc (.int .i64 0)), .nl, .nl])]) (fun i => i ≤ t.length ∧ (t.take i).any (fun a => !decide (a.kind = 1)) = false) (fun i => t.length - i) (0) (⟨Nat.zero_le _, rfl⟩) ((And.intro (And.intro @n38 @n124) (And.intro @n33 (And.intro @n43 @n45)))) ?_; intro lx hI; obtain i := lx; (try simp only [List.nil_append, List.cons_append] at hI ⊢)
  by_cases hlt : lx < t.length
  · by_cases hk : t[lx].kind = 1
    · have gk := eq_true hk
      refine Run ((And.intro (And.intro (And.intro @eTy_eta @hlt) (And.intro @gk @n38)) (And.intro (And.intro @n124 @n33) (And.intro @n43 @n45)))) ?_; repeat' (first | (with_reducible exact True.intro) | (with_reducible refine Lf.mk ?_ ?_) | (with_reducible intro hb))
      exact Nxt (@eTy_eta) (lx + 1) (⟨by omega, any_take hlt hI.2 (by simp [hk])⟩) (by first | omega | (simp; omega))
    · have := List.any_eq_false.1 ha _ (List.getElem_mem hlt)
      simp [hk] at this
  · refine Run ((And.intro (And.intro @hlt (And.intro @n38 @n124)) (And.intro @n33 (And.intro @n43 @n45)))) ?_; repeat' (first | (with_reducible exact True.intro) | (with_reducible refine Lf.mk ?_ ?_) | (with_reducible intro hb))
    refine CalI (@eTy_eta) (sBool_t) ?_
    refine Run (@eTy_eta) ?_; repeat' (first | (with_reducible exact True.intro) | (with_reducible refine Lf.mk ?_ ?_) | (with_reducible intro hb))
theorem sOp_60_b (t : List Ty) (h : t.length ≤ 2^20) (ha : (t.any fun a => !decide (a.kind = 1)) = true) : FnS Tryz.prog 124 [] [sT ⟨#[60]⟩, slT eTy t] [] (.tp [.ag [.im (.sc (.int .i64 0)), .nl, .nl], bT false]) := by
  refine FnS.go [0, 1, 4, 5, 6, 7, 17, 21, 30, 37] [] Tryz.func124 rfl (fun kt kz => ?_)
  have fcx := fc124A94
  simp only [Tryz.f124]
  have n38 : ((⟨#[60]⟩ : ByteArray) = ⟨#[38]⟩) = False := eq_false (by simp)
  have n124 : ((⟨#[60]⟩ : ByteArray) = ⟨#[124]⟩) = False := eq_false (by simp)
  have n33 : ((⟨#[60]⟩ : ByteArray) = ⟨#[33]⟩) = False := eq_false (by simp)
  have n43 : ((⟨#[60]⟩ : ByteArray) = ⟨#[43]⟩) = False := eq_false (by simp)
  have n45 : ((⟨#[60]⟩ : ByteArray) = ⟨#[45]⟩) = False := eq_false (by simp)
  refine Run ((And.intro (And.intro @n38 @n124) (And.intro @n33 (And.intro @n43 @n45)))) ?_; repeat' (first | (with_reducible exact True.intro) | (with_reducible refine Lf.mk ?_ ?_) | (with_reducible intro hb))
  refine Trn (α := Nat) [5, 7, 18, 19, 20, 21, 22, 23, 24, 25, 26, 27, 28, 29, 30, 31] (fun i => [(7, iT i)]) (fun i => [(8, .box 43 [.im (.sc (.int .i64 0)), .nl, .nl])]) (fun i => i ≤ t.length ∧ (t.take i).any (fun a => !decide (a.kind = 1)) = false) (fun i => t.length - i) (0) (⟨Nat.zero_le _, rfl⟩) ((And.intro (And.intro @n38 @n124) (And.intro @n33 (And.intro @n43 @n45)))) ?_; intro lx hI; obtain i := lx; (try simp only [List.nil_append, List.cons_append] at hI ⊢)
  by_cases hlt : lx < t.length
  · by_cases hk : t[lx].kind = 1
    · have gk := eq_true hk
      refine Run ((And.intro (And.intro (And.intro @eTy_eta @hlt) (And.intro @gk @n38)) (And.intro (And.intro @n124 @n33) (And.intro @n43 @n45)))) ?_; repeat' (first | (with_reducible exact True.intro) | (with_reducible refine Lf.mk ?_ ?_) | (with_reducible intro hb))
      exact Nxt (@eTy_eta) (lx + 1) (⟨by omega, any_take hlt hI.2 (by simp [hk])⟩) (by first | omega | (simp; omega))
    · have gk := eq_false hk
      refine Run ((And.intro (And.intro (And.intro @eTy_eta @hlt) (And.intro @gk @n38)) (And.intro (And.intro @n124 @n33) (And.intro @n43 @n45)))) ?_; repeat' (first | (with_reducible exact True.intro) | (with_reducible refine Lf.mk ?_ ?_) | (with_reducible intro hb))
  · rw [any_all (by omega) hI.2] at ha
    cases ha
theorem sOp_38_a (t : List Ty) (h : t.length ≤ 2^20) (ha : (t.any fun a => !decide (a.kind = 2)) = false) : FnS Tryz.prog 124 [] [sT ⟨#[38]⟩, slT eTy t] [] (.tp [agT (eTy tBool), bT true]) := by
  refine FnS.go [0, 1, 4, 5, 6, 7, 17, 21, 30, 37] [] Tryz.func124 rfl (fun kt kz => ?_)
  have fcx := fc124A94
  simp only [Tryz.f124]
  have n124 : ((⟨#[38]⟩ : ByteArray) = ⟨#[124]⟩) = False := eq_false (by simp)
  have n33 : ((⟨#[38]⟩ : ByteArray) = ⟨#[33]⟩) = False := eq_false (by simp)
  have n43 : ((⟨#[38]⟩ : ByteArray) = ⟨#[43]⟩) = False := eq_false (by simp)
  have n45 : ((⟨#[38]⟩ : ByteArray) = ⟨#[45]⟩) = False := eq_false (by simp)
  refine Run ((And.intro (And.intro @n124 @n33) (And.intro @n43 @n45))) ?_; repeat' (first | (with_reducible exact True.intro) | (with_reducible refine Lf.mk ?_ ?_) | (with_reducible intro hb))
  refine Trn (α := Nat) [5, 7, 18, 19, 20, 21, 22, 23, 24, 25, 26, 27, 28, 29, 30, 31] (fun i => [(7, iT i)]) (fun i => [(8, .box 43 [.im (.sc (.int .i64 0)), .nl, .nl])]) (fun i => i ≤ t.length ∧ (t.take i).any (fun a => !decide (a.kind = 2)) = false) (fun i => t.length - i) (0) (⟨Nat.zero_le _, rfl⟩) ((And.intro (And.intro @n124 @n33) (And.intro @n43 @n45))) ?_; intro lx hI; obtain i := lx; (try simp only [List.nil_append, List.cons_append] at hI ⊢)
  by_cases hlt : lx < t.length
  · by_cases hk : t[lx].kind = 2
    · have gk := eq_true hk
      refine Run ((And.intro (And.intro @eTy_eta (And.intro @hlt @gk)) (And.intro (And.intro @n124 @n33) (And.intro @n43 @n45)))) ?_; repeat' (first | (with_reducible exact True.intro) | (with_reducible refine Lf.mk ?_ ?_) | (with_reducible intro hb))
      exact Nxt (@eTy_eta) (lx + 1) (⟨by omega, any_take hlt hI.2 (by simp [hk])⟩) (by first | omega | (simp; omega))
    · have := List.any_eq_false.1 ha _ (List.getElem_mem hlt)
      simp [hk] at this
  · refine Run ((And.intro (And.intro @hlt @n124) (And.intro @n33 (And.intro @n43 @n45)))) ?_; repeat' (first | (with_reducible exact True.intro) | (with_reducible refine Lf.mk ?_ ?_) | (with_reducible intro hb))
    refine CalI (@eTy_eta) (sBool_t) ?_
    refine Run (@eTy_eta) ?_; repeat' (first | (with_reducible exact True.intro) | (with_reducible refine Lf.mk ?_ ?_) | (with_reducible intro hb))
theorem sOp_38_b (t : List Ty) (h : t.length ≤ 2^20) (ha : (t.any fun a => !decide (a.kind = 2)) = true) : FnS Tryz.prog 124 [] [sT ⟨#[38]⟩, slT eTy t] [] (.tp [.ag [.im (.sc (.int .i64 0)), .nl, .nl], bT false]) := by
  refine FnS.go [0, 1, 4, 5, 6, 7, 17, 21, 30, 37] [] Tryz.func124 rfl (fun kt kz => ?_)
  have fcx := fc124A94
  simp only [Tryz.f124]
  have n124 : ((⟨#[38]⟩ : ByteArray) = ⟨#[124]⟩) = False := eq_false (by simp)
  have n33 : ((⟨#[38]⟩ : ByteArray) = ⟨#[33]⟩) = False := eq_false (by simp)
  have n43 : ((⟨#[38]⟩ : ByteArray) = ⟨#[43]⟩) = False := eq_false (by simp)
  have n45 : ((⟨#[38]⟩ : ByteArray) = ⟨#[45]⟩) = False := eq_false (by simp)
  refine Run ((And.intro (And.intro @n124 @n33) (And.intro @n43 @n45))) ?_; repeat' (first | (with_reducible exact True.intro) | (with_reducible refine Lf.mk ?_ ?_) | (with_reducible intro hb))
  refine Trn (α := Nat) [5, 7, 18, 19, 20, 21, 22, 23, 24, 25, 26, 27, 28, 29, 30, 31] (fun i => [(7, iT i)]) (fun i => [(8, .box 43 [.im (.sc (.int .i64 0)), .nl, .nl])]) (fun i => i ≤ t.length ∧ (t.take i).any (fun a => !decide (a.kind = 2)) = false) (fun i => t.length - i) (0) (⟨Nat.zero_le _, rfl⟩) ((And.intro (And.intro @n124 @n33) (And.intro @n43 @n45))) ?_; intro lx hI; obtain i := lx; (try simp only [List.nil_append, List.cons_append] at hI ⊢)
  by_cases hlt : lx < t.length
  · by_cases hk : t[lx].kind = 2
    · have gk := eq_true hk
      refine Run ((And.intro (And.intro @eTy_eta (And.intro @hlt @gk)) (And.intro (And.intro @n124 @n33) (And.intro @n43 @n45)))) ?_; repeat' (first | (with_reducible exact True.intro) | (with_reducible refine Lf.mk ?_ ?_) | (with_reducible intro hb))
      exact Nxt (@eTy_eta) (lx + 1) (⟨by omega, any_take hlt hI.2 (by simp [hk])⟩) (by first | omega | (simp; omega))
    · have gk := eq_false hk
      refine Run ((And.intro (And.intro @eTy_eta (And.intro @hlt @gk)) (And.intro (And.intro @n124 @n33) (And.intro @n43 @n45)))) ?_; repeat' (first | (with_reducible exact True.intro) | (with_reducible refine Lf.mk ?_ ?_) | (with_reducible intro hb))
  · rw [any_all (by omega) hI.2] at ha
    cases ha
theorem sOp_124_a (t : List Ty) (h : t.length ≤ 2^20) (ha : (t.any fun a => !decide (a.kind = 2)) = false) : FnS Tryz.prog 124 [] [sT ⟨#[124]⟩, slT eTy t] [] (.tp [agT (eTy tBool), bT true]) := by
  refine FnS.go [0, 1, 4, 5, 6, 7, 17, 21, 30, 37] [] Tryz.func124 rfl (fun kt kz => ?_)
  have fcx := fc124A94
  simp only [Tryz.f124]
  have n38 : ((⟨#[124]⟩ : ByteArray) = ⟨#[38]⟩) = False := eq_false (by simp)
  have n33 : ((⟨#[124]⟩ : ByteArray) = ⟨#[33]⟩) = False := eq_false (by simp)
  have n43 : ((⟨#[124]⟩ : ByteArray) = ⟨#[43]⟩) = False := eq_false (by simp)
  have n45 : ((⟨#[124]⟩ : ByteArray) = ⟨#[45]⟩) = False := eq_false (by simp)
  refine Run ((And.intro (And.intro @n38 @n33) (And.intro @n43 @n45))) ?_; repeat' (first | (with_reducible exact True.intro) | (with_reducible refine Lf.mk ?_ ?_) | (with_reducible intro hb))
  refine Trn (α := Nat) [5, 7, 18, 19, 20, 21, 22, 23, 24, 25, 26, 27, 28, 29, 30, 31] (fun i => [(7, iT i)]) (fun i => [(8, .box 43 [.im (.sc (.int .i64 0)), .nl, .nl])]) (fun i => i ≤ t.length ∧ (t.take i).any (fun a => !decide (a.kind = 2)) = false) (fun i => t.length - i) (0) (⟨Nat.zero_le _, rfl⟩) ((And.intro (And.intro @n38 @n33) (And.intro @n43 @n45))) ?_; intro lx hI; obtain i := lx; (try simp only [List.nil_append, List.cons_append] at hI ⊢)
  by_cases hlt : lx < t.length
  · by_cases hk : t[lx].kind = 2
    · have gk := eq_true hk
      refine Run ((And.intro (And.intro @eTy_eta (And.intro @hlt @gk)) (And.intro (And.intro @n38 @n33) (And.intro @n43 @n45)))) ?_; repeat' (first | (with_reducible exact True.intro) | (with_reducible refine Lf.mk ?_ ?_) | (with_reducible intro hb))
      exact Nxt (@eTy_eta) (lx + 1) (⟨by omega, any_take hlt hI.2 (by simp [hk])⟩) (by first | omega | (simp; omega))
    · have := List.any_eq_false.1 ha _ (List.getElem_mem hlt)
      simp [hk] at this
  · refine Run ((And.intro (And.intro @hlt @n38) (And.intro @n33 (And.intro @n43 @n45)))) ?_; repeat' (first | (with_reducible exact True.intro) | (with_reducible refine Lf.mk ?_ ?_) | (with_reducible intro hb))
    refine CalI (@eTy_eta) (sBool_t) ?_
    refine Run (@eTy_eta) ?_; repeat' (first | (with_reducible exact True.intro) | (with_reducible refine Lf.mk ?_ ?_) | (with_reducible intro hb))
theorem sOp_124_b (t : List Ty) (h : t.length ≤ 2^20) (ha : (t.any fun a => !decide (a.kind = 2)) = true) : FnS Tryz.prog 124 [] [sT ⟨#[124]⟩, slT eTy t] [] (.tp [.ag [.im (.sc (.int .i64 0)), .nl, .nl], bT false]) := by
  refine FnS.go [0, 1, 4, 5, 6, 7, 17, 21, 30, 37] [] Tryz.func124 rfl (fun kt kz => ?_)
  have fcx := fc124A94
  simp only [Tryz.f124]
  have n38 : ((⟨#[124]⟩ : ByteArray) = ⟨#[38]⟩) = False := eq_false (by simp)
  have n33 : ((⟨#[124]⟩ : ByteArray) = ⟨#[33]⟩) = False := eq_false (by simp)
  have n43 : ((⟨#[124]⟩ : ByteArray) = ⟨#[43]⟩) = False := eq_false (by simp)
  have n45 : ((⟨#[124]⟩ : ByteArray) = ⟨#[45]⟩) = False := eq_false (by simp)
  refine Run ((And.intro (And.intro @n38 @n33) (And.intro @n43 @n45))) ?_; repeat' (first | (with_reducible exact True.intro) | (with_reducible refine Lf.mk ?_ ?_) | (with_reducible intro hb))
  refine Trn (α := Nat) [5, 7, 18, 19, 20, 21, 22, 23, 24, 25, 26, 27, 28, 29, 30, 31] (fun i => [(7, iT i)]) (fun i => [(8, .box 43 [.im (.sc (.int .i64 0)), .nl, .nl])]) (fun i => i ≤ t.length ∧ (t.take i).any (fun a => !decide (a.kind = 2)) = false) (fun i => t.length - i) (0) (⟨Nat.zero_le _, rfl⟩) ((And.intro (And.intro @n38 @n33) (And.intro @n43 @n45))) ?_; intro lx hI; obtain i := lx; (try simp only [List.nil_append, List.cons_append] at hI ⊢)
  by_cases hlt : lx < t.length
  · by_cases hk : t[lx].kind = 2
    · have gk := eq_true hk
      refine Run ((And.intro (And.intro @eTy_eta (And.intro @hlt @gk)) (And.intro (And.intro @n38 @n33) (And.intro @n43 @n45)))) ?_; repeat' (first | (with_reducible exact True.intro) | (with_reducible refine Lf.mk ?_ ?_) | (with_reducible intro hb))
      exact Nxt (@eTy_eta) (lx + 1) (⟨by omega, any_take hlt hI.2 (by simp [hk])⟩) (by first | omega | (simp; omega))
    · have gk := eq_false hk
      refine Run ((And.intro (And.intro @eTy_eta (And.intro @hlt @gk)) (And.intro (And.intro @n38 @n33) (And.intro @n43 @n45)))) ?_; repeat' (first | (with_reducible exact True.intro) | (with_reducible refine Lf.mk ?_ ?_) | (with_reducible intro hb))
  · rw [any_all (by omega) hI.2] at ha
    cases ha
theorem sOp_33_a (t : List Ty) (h : t.length ≤ 2^20) (ha : (t.any fun a => !decide (a.kind = 2)) = false) : FnS Tryz.prog 124 [] [sT ⟨#[33]⟩, slT eTy t] [] (.tp [agT (eTy tBool), bT true]) := by
  refine FnS.go [0, 1, 4, 5, 6, 7, 17, 21, 30, 37] [] Tryz.func124 rfl (fun kt kz => ?_)
  have fcx := fc124A94
  simp only [Tryz.f124]
  have n38 : ((⟨#[33]⟩ : ByteArray) = ⟨#[38]⟩) = False := eq_false (by simp)
  have n124 : ((⟨#[33]⟩ : ByteArray) = ⟨#[124]⟩) = False := eq_false (by simp)
  have n43 : ((⟨#[33]⟩ : ByteArray) = ⟨#[43]⟩) = False := eq_false (by simp)
  have n45 : ((⟨#[33]⟩ : ByteArray) = ⟨#[45]⟩) = False := eq_false (by simp)
  refine Run ((And.intro (And.intro @n38 @n124) (And.intro @n43 @n45))) ?_; repeat' (first | (with_reducible exact True.intro) | (with_reducible refine Lf.mk ?_ ?_) | (with_reducible intro hb))
  refine Trn (α := Nat) [5, 7, 18, 19, 20, 21, 22, 23, 24, 25, 26, 27, 28, 29, 30, 31] (fun i => [(7, iT i)]) (fun i => [(8, .box 43 [.im (.sc (.int .i64 0)), .nl, .nl])]) (fun i => i ≤ t.length ∧ (t.take i).any (fun a => !decide (a.kind = 2)) = false) (fun i => t.length - i) (0) (⟨Nat.zero_le _, rfl⟩) ((And.intro (And.intro @n38 @n124) (And.intro @n43 @n45))) ?_; intro lx hI; obtain i := lx; (try simp only [List.nil_append, List.cons_append] at hI ⊢)
  by_cases hlt : lx < t.length
  · by_cases hk : t[lx].kind = 2
    · have gk := eq_true hk
      refine Run ((And.intro (And.intro @eTy_eta (And.intro @hlt @gk)) (And.intro (And.intro @n38 @n124) (And.intro @n43 @n45)))) ?_; repeat' (first | (with_reducible exact True.intro) | (with_reducible refine Lf.mk ?_ ?_) | (with_reducible intro hb))
      exact Nxt (@eTy_eta) (lx + 1) (⟨by omega, any_take hlt hI.2 (by simp [hk])⟩) (by first | omega | (simp; omega))
    · have := List.any_eq_false.1 ha _ (List.getElem_mem hlt)
      simp [hk] at this
  · refine Run ((And.intro (And.intro @hlt @n38) (And.intro @n124 (And.intro @n43 @n45)))) ?_; repeat' (first | (with_reducible exact True.intro) | (with_reducible refine Lf.mk ?_ ?_) | (with_reducible intro hb))
    refine CalI (@eTy_eta) (sBool_t) ?_
    refine Run (@eTy_eta) ?_; repeat' (first | (with_reducible exact True.intro) | (with_reducible refine Lf.mk ?_ ?_) | (with_reducible intro hb))
theorem sOp_33_b (t : List Ty) (h : t.length ≤ 2^20) (ha : (t.any fun a => !decide (a.kind = 2)) = true) : FnS Tryz.prog 124 [] [sT ⟨#[33]⟩, slT eTy t] [] (.tp [.ag [.im (.sc (.int .i64 0)), .nl, .nl], bT false]) := by
  refine FnS.go [0, 1, 4, 5, 6, 7, 17, 21, 30, 37] [] Tryz.func124 rfl (fun kt kz => ?_)
  have fcx := fc124A94
  simp only [Tryz.f124]
  have n38 : ((⟨#[33]⟩ : ByteArray) = ⟨#[38]⟩) = False := eq_false (by simp)
  have n124 : ((⟨#[33]⟩ : ByteArray) = ⟨#[124]⟩) = False := eq_false (by simp)
  have n43 : ((⟨#[33]⟩ : ByteArray) = ⟨#[43]⟩) = False := eq_false (by simp)
  have n45 : ((⟨#[33]⟩ : ByteArray) = ⟨#[45]⟩) = False := eq_false (by simp)
  refine Run ((And.intro (And.intro @n38 @n124) (And.intro @n43 @n45))) ?_; repeat' (first | (with_reducible exact True.intro) | (with_reducible refine Lf.mk ?_ ?_) | (with_reducible intro hb))
  refine Trn (α := Nat) [5, 7, 18, 19, 20, 21, 22, 23, 24, 25, 26, 27, 28, 29, 30, 31] (fun i => [(7, iT i)]) (fun i => [(8, .box 43 [.im (.sc (.int .i64 0)), .nl, .nl])]) (fun i => i ≤ t.length ∧ (t.take i).any (fun a => !decide (a.kind = 2)) = false) (fun i => t.length - i) (0) (⟨Nat.zero_le _, rfl⟩) ((And.intro (And.intro @n38 @n124) (And.intro @n43 @n45))) ?_; intro lx hI; obtain i := lx; (try simp only [List.nil_append, List.cons_append] at hI ⊢)
  by_cases hlt : lx < t.length
  · by_cases hk : t[lx].kind = 2
    · have gk := eq_true hk
      refine Run ((And.intro (And.intro @eTy_eta (And.intro @hlt @gk)) (And.intro (And.intro @n38 @n124) (And.intro @n43 @n45)))) ?_; repeat' (first | (with_reducible exact True.intro) | (with_reducible refine Lf.mk ?_ ?_) | (with_reducible intro hb))
      exact Nxt (@eTy_eta) (lx + 1) (⟨by omega, any_take hlt hI.2 (by simp [hk])⟩) (by first | omega | (simp; omega))
    · have gk := eq_false hk
      refine Run ((And.intro (And.intro @eTy_eta (And.intro @hlt @gk)) (And.intro (And.intro @n38 @n124) (And.intro @n43 @n45)))) ?_; repeat' (first | (with_reducible exact True.intro) | (with_reducible refine Lf.mk ?_ ?_) | (with_reducible intro hb))
  · rw [any_all (by omega) hI.2] at ha
    cases ha

theorem specOp_ok (s : ByteArray) (hs : opAr s ≠ 0) (t : List Ty) (h : t.length ≤ 2^20) : FnP Tryz.prog 124 [sT s, slT eTy t] (.tp [agT (eTy ((opT s t).getD ty0)), bT (opT s t).isSome]) := by
  have hc : s = ⟨#[43]⟩ ∨ s = ⟨#[45]⟩ ∨ s = ⟨#[61]⟩ ∨ s = ⟨#[60]⟩ ∨ s = ⟨#[38]⟩ ∨ s = ⟨#[124]⟩ ∨ s = ⟨#[33]⟩ := by
    unfold opAr at hs
    split at hs
    · rename_i h; rcases h with h | h | h | h | h | h
      · exact .inl h
      · exact .inr (.inl h)
      · exact .inr (.inr (.inl h))
      · exact .inr (.inr (.inr (.inl h)))
      · exact .inr (.inr (.inr (.inr (.inl h))))
      · exact .inr (.inr (.inr (.inr (.inr (.inl h)))))
    · split at hs
      · rename_i h; exact .inr (.inr (.inr (.inr (.inr (.inr h)))))
      · exact absurd rfl hs
  rw [opT_eq]
  rcases hc with rfl | rfl | rfl | rfl | rfl | rfl | rfl
  · have e : (if (⟨#[43]⟩ : ByteArray) = opAnd ∨ (⟨#[43]⟩ : ByteArray) = opOr ∨ (⟨#[43]⟩ : ByteArray) = opNot then (2 : Int) else 1) = 1 := by simp [opAnd, opOr, opNot]
    have e2 : (if (⟨#[43]⟩ : ByteArray) = opPlus ∨ (⟨#[43]⟩ : ByteArray) = opMinus then tInt else tBool) = tInt := by simp [opPlus, opMinus]
    rw [e, e2]
    cases ha : (t.any fun a => !decide (a.kind = 1)) with
    | false => exact sOp_43_a t h ha
    | true => exact (sOp_43_b t h ha).treeP rfl
  · have e : (if (⟨#[45]⟩ : ByteArray) = opAnd ∨ (⟨#[45]⟩ : ByteArray) = opOr ∨ (⟨#[45]⟩ : ByteArray) = opNot then (2 : Int) else 1) = 1 := by simp [opAnd, opOr, opNot]
    have e2 : (if (⟨#[45]⟩ : ByteArray) = opPlus ∨ (⟨#[45]⟩ : ByteArray) = opMinus then tInt else tBool) = tInt := by simp [opPlus, opMinus]
    rw [e, e2]
    cases ha : (t.any fun a => !decide (a.kind = 1)) with
    | false => exact sOp_45_a t h ha
    | true => exact (sOp_45_b t h ha).treeP rfl
  · have e : (if (⟨#[61]⟩ : ByteArray) = opAnd ∨ (⟨#[61]⟩ : ByteArray) = opOr ∨ (⟨#[61]⟩ : ByteArray) = opNot then (2 : Int) else 1) = 1 := by simp [opAnd, opOr, opNot]
    have e2 : (if (⟨#[61]⟩ : ByteArray) = opPlus ∨ (⟨#[61]⟩ : ByteArray) = opMinus then tInt else tBool) = tBool := by simp [opPlus, opMinus]
    rw [e, e2]
    cases ha : (t.any fun a => !decide (a.kind = 1)) with
    | false => exact sOp_61_a t h ha
    | true => exact (sOp_61_b t h ha).treeP rfl
  · have e : (if (⟨#[60]⟩ : ByteArray) = opAnd ∨ (⟨#[60]⟩ : ByteArray) = opOr ∨ (⟨#[60]⟩ : ByteArray) = opNot then (2 : Int) else 1) = 1 := by simp [opAnd, opOr, opNot]
    have e2 : (if (⟨#[60]⟩ : ByteArray) = opPlus ∨ (⟨#[60]⟩ : ByteArray) = opMinus then tInt else tBool) = tBool := by simp [opPlus, opMinus]
    rw [e, e2]
    cases ha : (t.any fun a => !decide (a.kind = 1)) with
    | false => exact sOp_60_a t h ha
    | true => exact (sOp_60_b t h ha).treeP rfl
  · have e : (if (⟨#[38]⟩ : ByteArray) = opAnd ∨ (⟨#[38]⟩ : ByteArray) = opOr ∨ (⟨#[38]⟩ : ByteArray) = opNot then (2 : Int) else 1) = 2 := by simp [opAnd, opOr, opNot]
    have e2 : (if (⟨#[38]⟩ : ByteArray) = opPlus ∨ (⟨#[38]⟩ : ByteArray) = opMinus then tInt else tBool) = tBool := by simp [opPlus, opMinus]
    rw [e, e2]
    cases ha : (t.any fun a => !decide (a.kind = 2)) with
    | false => exact sOp_38_a t h ha
    | true => exact (sOp_38_b t h ha).treeP rfl
  · have e : (if (⟨#[124]⟩ : ByteArray) = opAnd ∨ (⟨#[124]⟩ : ByteArray) = opOr ∨ (⟨#[124]⟩ : ByteArray) = opNot then (2 : Int) else 1) = 2 := by simp [opAnd, opOr, opNot]
    have e2 : (if (⟨#[124]⟩ : ByteArray) = opPlus ∨ (⟨#[124]⟩ : ByteArray) = opMinus then tInt else tBool) = tBool := by simp [opPlus, opMinus]
    rw [e, e2]
    cases ha : (t.any fun a => !decide (a.kind = 2)) with
    | false => exact sOp_124_a t h ha
    | true => exact (sOp_124_b t h ha).treeP rfl
  · have e : (if (⟨#[33]⟩ : ByteArray) = opAnd ∨ (⟨#[33]⟩ : ByteArray) = opOr ∨ (⟨#[33]⟩ : ByteArray) = opNot then (2 : Int) else 1) = 2 := by simp [opAnd, opOr, opNot]
    have e2 : (if (⟨#[33]⟩ : ByteArray) = opPlus ∨ (⟨#[33]⟩ : ByteArray) = opMinus then tInt else tBool) = tBool := by simp [opPlus, opMinus]
    rw [e, e2]
    cases ha : (t.any fun a => !decide (a.kind = 2)) with
    | false => exact sOp_33_a t h ha
    | true => exact (sOp_33_b t h ha).treeP rfl
def fc89A94 := (And.intro (And.intro (And.intro (And.intro (And.intro sz3 ag3) (And.intro zv3 un3)) (And.intro (And.intro sz4 ag4) (And.intro zv4 un4))) (And.intro (And.intro (And.intro sz9 ag9) (And.intro zv9 un9)) (And.intro (And.intro sz25 ag25) (And.intro zv25 sb25)))) (And.intro (And.intro (And.intro (And.intro un25 el25) (And.intro ap25 sz46)) (And.intro (And.intro ag46 zv46) (And.intro fl46_0 fl46_1))) (And.intro (And.intro (And.intro fl46_2 fl46_3) (And.intro fl46_4 fl46_5)) (And.intro (And.intro pl46 okf104) (And.intro sz43 sz44)))))
theorem l7Arity_ok (t : Tm) (h : okTm (2^20) t) : FnS Tryz.prog 89 [] [agT (eTm t)] [] (iT (arS t)) := by
  refine FnS.go [0, 1, 2, 4, 5, 11, 16, 21, 27, 31] [] Tryz.func89 rfl (fun kt kz => ?_)
  have fcx := fc89A94
  simp only [Tryz.f89]
  by_cases h1 : t.kind = 1
  · have e1 : arS t = 0 := by simp [arS, h1]
    refine Run ((And.intro (And.intro @eTm_eta @eTy_eta) (And.intro @h1 @e1))) ?_; repeat' (first | (with_reducible exact True.intro) | (with_reducible refine Lf.mk ?_ ?_) | (with_reducible intro hb))
  · have g1 := eq_false h1
    by_cases h2 : t.kind = 2
    · have e1 : arS t = 0 := by simp [arS, h2]
      refine Run ((And.intro (And.intro @eTm_eta @eTy_eta) (And.intro @h2 @e1))) ?_; repeat' (first | (with_reducible exact True.intro) | (with_reducible refine Lf.mk ?_ ?_) | (with_reducible intro hb))
    · have g2 := eq_false h2
      by_cases h3 : t.kind = 3
      · have e1 : arS t = 0 := by simp [arS, h3]
        refine Run ((And.intro (And.intro @eTm_eta @eTy_eta) (And.intro @h3 @e1))) ?_; repeat' (first | (with_reducible exact True.intro) | (with_reducible refine Lf.mk ?_ ?_) | (with_reducible intro hb))
      · have g3 := eq_false h3
        by_cases h7 : t.kind = 7
        · have e1 : arS t = 0 := by simp [arS, h7]
          refine Run ((And.intro (And.intro @eTm_eta @eTy_eta) (And.intro @h7 @e1))) ?_; repeat' (first | (with_reducible exact True.intro) | (with_reducible refine Lf.mk ?_ ?_) | (with_reducible intro hb))
        · have g7 := eq_false h7
          by_cases h12 : t.kind = 12
          · have e1 : arS t = 0 := by simp [arS, h12]
            refine Run ((And.intro (And.intro @eTm_eta @eTy_eta) (And.intro @h12 @e1))) ?_; repeat' (first | (with_reducible exact True.intro) | (with_reducible refine Lf.mk ?_ ?_) | (with_reducible intro hb))
          · have g12 := eq_false h12
            by_cases h4 : t.kind = 4
            · have e1 : arS t = (opAr t.name : Int) := by simp [arS, h4]
              refine Run ((And.intro @eTm_eta (And.intro @eTy_eta @h4))) ?_; repeat' (first | (with_reducible exact True.intro) | (with_reducible refine Lf.mk ?_ ?_) | (with_reducible intro hb))
              refine Cal ((And.intro @eTm_eta @eTy_eta)) (specArity_ok t.name) ?_
              refine Run ((And.intro @eTm_eta (And.intro @eTy_eta @e1))) ?_; repeat' (first | (with_reducible exact True.intro) | (with_reducible refine Lf.mk ?_ ?_) | (with_reducible intro hb))
            · have g4 := eq_false h4
              by_cases h5 : t.kind = 5
              · have e1 : arS t = (t.labels.length : Int) := by simp [arS, h5]
                refine Run ((And.intro (And.intro @eTm_eta @eTy_eta) (And.intro @h5 @e1))) ?_; repeat' (first | (with_reducible exact True.intro) | (with_reducible refine Lf.mk ?_ ?_) | (with_reducible intro hb))
              · have g5 := eq_false h5
                by_cases h6 : t.kind = 6
                · have e1 : arS t = 1 := by simp [arS, h6]
                  refine Run ((And.intro (And.intro @eTm_eta @eTy_eta) (And.intro @h6 @e1))) ?_; repeat' (first | (with_reducible exact True.intro) | (with_reducible refine Lf.mk ?_ ?_) | (with_reducible intro hb))
                · have g6 := eq_false h6
                  by_cases h8 : t.kind = 8
                  · have e1 : arS t = 1 := by simp [arS, h8]
                    refine Run ((And.intro (And.intro @eTm_eta @eTy_eta) (And.intro @h8 @e1))) ?_; repeat' (first | (with_reducible exact True.intro) | (with_reducible refine Lf.mk ?_ ?_) | (with_reducible intro hb))
                  · have g8 := eq_false h8
                    by_cases h13 : t.kind = 13
                    · have e1 : arS t = 1 := by simp [arS, h13]
                      refine Run ((And.intro (And.intro @eTm_eta @eTy_eta) (And.intro @h13 @e1))) ?_; repeat' (first | (with_reducible exact True.intro) | (with_reducible refine Lf.mk ?_ ?_) | (with_reducible intro hb))
                    · have g13 := eq_false h13
                      by_cases h15 : t.kind = 15
                      · have e1 : arS t = 1 := by simp [arS, h15]
                        refine Run ((And.intro (And.intro @eTm_eta @eTy_eta) (And.intro @h15 @e1))) ?_; repeat' (first | (with_reducible exact True.intro) | (with_reducible refine Lf.mk ?_ ?_) | (with_reducible intro hb))
                      · have g15 := eq_false h15
                        by_cases h16 : t.kind = 16
                        · have e1 : arS t = 1 := by simp [arS, h16]
                          refine Run ((And.intro (And.intro @eTm_eta @eTy_eta) (And.intro @h16 @e1))) ?_; repeat' (first | (with_reducible exact True.intro) | (with_reducible refine Lf.mk ?_ ?_) | (with_reducible intro hb))
                        · have g16 := eq_false h16
                          by_cases h9 : t.kind = 9
                          · have e1 : arS t = 2 := by simp [arS, h9]
                            refine Run ((And.intro (And.intro @eTm_eta @eTy_eta) (And.intro @h9 @e1))) ?_; repeat' (first | (with_reducible exact True.intro) | (with_reducible refine Lf.mk ?_ ?_) | (with_reducible intro hb))
                          · have g9 := eq_false h9
                            by_cases h10 : t.kind = 10
                            · have e1 : arS t = 2 := by simp [arS, h10]
                              refine Run ((And.intro (And.intro @eTm_eta @eTy_eta) (And.intro @h10 @e1))) ?_; repeat' (first | (with_reducible exact True.intro) | (with_reducible refine Lf.mk ?_ ?_) | (with_reducible intro hb))
                            · have g10 := eq_false h10
                              by_cases h14 : t.kind = 14
                              · have e1 : arS t = 2 := by simp [arS, h14]
                                refine Run ((And.intro (And.intro @eTm_eta @eTy_eta) (And.intro @h14 @e1))) ?_; repeat' (first | (with_reducible exact True.intro) | (with_reducible refine Lf.mk ?_ ?_) | (with_reducible intro hb))
                              · have g14 := eq_false h14
                                by_cases h11 : t.kind = 11
                                · have e1 : arS t = 3 := by simp [arS, h11]
                                  refine Run ((And.intro (And.intro @eTm_eta @eTy_eta) (And.intro @h11 @e1))) ?_; repeat' (first | (with_reducible exact True.intro) | (with_reducible refine Lf.mk ?_ ?_) | (with_reducible intro hb))
                                · have g11 := eq_false h11
                                  have e1 : arS t = -1 := by simp [arS, g1, g2, g3, g7, g12, g4, g5, g6, g8, g13, g15, g16, g9, g10, g14, g11]
                                  refine Run ((And.intro (And.intro (And.intro (And.intro @eTm_eta @eTy_eta) (And.intro @g1 @g2)) (And.intro (And.intro @g3 @g7) (And.intro @g12 (And.intro @g4 @g5)))) (And.intro (And.intro (And.intro @g6 @g8) (And.intro @g13 (And.intro @g15 @g16))) (And.intro (And.intro @g9 @g10) (And.intro @g14 (And.intro @g11 @e1)))))) ?_; repeat' (first | (with_reducible exact True.intro) | (with_reducible refine Lf.mk ?_ ?_) | (with_reducible intro hb))

end Go.VC.T
/- Terms of normal queries: the reference. -/
namespace Go.VC
open Go
theorem BsT_swap {f : Bool} {a : Tm} (h : f = true → ¬ a.kind = 1) : BsT f a ↔ BsT false a := by
  rw [BsT_eta, BsT_eta]
  constructor
  · rintro (⟨h1, h2⟩ | h1)
    · exact absurd h1 (h h2)
    · exact .inr h1
  · rintro (⟨_, h2⟩ | h1)
    · cases h2
    · exact .inr h1
theorem BsT_one {a : Tm} (h : a.kind = 1) : BsT true a := by rw [BsT_eta]; exact .inl ⟨h, rfl⟩
end Go.VC
namespace Go.VC.T
open Go Go.VC Go.Proofs Go.VC.F
set_option linter.unusedSimpArgs false
set_option linter.unusedVariables false
set_option linter.defProp false
set_option maxRecDepth 100000
set_option maxHeartbeats 2000000
def fc66A95 := (And.intro (And.intro (And.intro (And.intro sz3 (And.intro ag3 zv3)) (And.intro (And.intro un3 sz4) (And.intro ag4 zv4))) (And.intro (And.intro un4 (And.intro sz44 ag44)) (And.intro (And.intro zv44 sb44) (And.intro un44 el44)))) (And.intro (And.intro (And.intro ap44 (And.intro sz46 ag46)) (And.intro (And.intro zv46 fl46_0) (And.intro fl46_1 fl46_2))) (And.intro (And.intro (And.intro fl46_3 fl46_4) (And.intro fl46_5 pl46)) (And.intro (And.intro okf66 sz9) (And.intro sz43 sz25)))))
theorem base_loop (t : Tm) (h : okTm (2^20) t) (hF : TmF t) (H : ∀ u ∈ t.args, FnP Tryz.prog 66 [agT (eTm u)] (bT (decide (BsT false u)))) : FnS Tryz.prog 66 [] [agT (eTm t)] [] (bT (decide (BsT false t))) := by
  refine FnS.go [0, 1, 2, 3, 16, 33, 38, 62, 69] [] Tryz.func66 rfl (fun kt kz => ?_)
  have fcx := fc66A95
  simp only [Tryz.f66]
  have ho := okTm_iff.1 h
  have hln := ho.2.2.2.2.2.1
  have hFa := ((TmF_eta t).1 hF).2
  have hno : ¬ BsT false t → decide (BsT false t) = false := decide_eq_false
  by_cases k13 : t.kind = 13
  · have g13 := eq_true k13
    have e := hno fun h => by rw [BsT_eta] at h; rcases h with h | h; cases h.2; exact h.2.1 k13
    refine Run ((And.intro (And.intro @eTm_eta @eTy_eta) (And.intro @g13 @e))) ?_; repeat' (first | (with_reducible exact True.intro) | (with_reducible refine Lf.mk ?_ ?_) | (with_reducible intro hb))
  · have g13 := eq_false k13
    by_cases k14 : t.kind = 14
    · have g14 := eq_true k14
      have e := hno fun h => by rw [BsT_eta] at h; rcases h with h | h; cases h.2; exact h.2.2.1 k14
      refine Run ((And.intro (And.intro @eTm_eta @eTy_eta) (And.intro @g13 (And.intro @g14 @e)))) ?_; repeat' (first | (with_reducible exact True.intro) | (with_reducible refine Lf.mk ?_ ?_) | (with_reducible intro hb))
    · have g14 := eq_false k14
      by_cases k1 : t.kind = 1
      · have g1 := eq_true k1
        have e := hno fun h => by rw [BsT_eta] at h; rcases h with h | h; cases h.2; exact h.1 k1
        refine Run ((And.intro (And.intro @eTm_eta (And.intro @eTy_eta @g13)) (And.intro @g14 (And.intro @g1 @e)))) ?_; repeat' (first | (with_reducible exact True.intro) | (with_reducible refine Lf.mk ?_ ?_) | (with_reducible intro hb))
      · have g1 := eq_false k1
        have hiff : (t.kind = 10 → ∃ h : 0 < t.args.length, t.args[0].kind = 12) → (BsT false t ↔ ∀ a ∈ t.args, BsT (decide (t.kind = 6)) a) := fun h10 => by
          rw [BsT_eta]
          exact ⟨fun h => h.elim (fun h => absurd h.1 k1) fun h => h.2.2.2.2, fun h => .inr ⟨k1, k13, k14, h10, h⟩⟩
        by_cases k10 : t.kind = 10
        · have g10 := eq_true k10
          have g6 := eq_false (show ¬ t.kind = 6 by omega)
          have e6 : decide (t.kind = 6) = false := decide_eq_false (by omega)
          by_cases h0 : 0 < t.args.length
          · have hz0 : ((t.args.length : Int) = 0) = False := eq_false (by omega)
            by_cases k12 : t.args[0].kind = 12
            · have g12 := eq_true k12
              have hi := hiff fun _ => ⟨h0, k12⟩
              rw [e6] at hi
              refine Run ((And.intro (And.intro (And.intro @eTm_eta @eTy_eta) (And.intro @g13 @g14)) (And.intro (And.intro @g1 @g10) (And.intro @h0 (And.intro @hz0 @g12))))) ?_; repeat' (first | (with_reducible exact True.intro) | (with_reducible refine Lf.mk ?_ ?_) | (with_reducible intro hb))
              refine Trn (α := Nat) [2, 3, 34, 35, 36, 37, 38, 39, 40, 41, 42, 43, 44, 45, 46, 47, 48, 49, 50, 51, 52, 53, 54, 55, 56, 57, 58, 59, 60, 61, 62, 63, 64, 65, 66, 67, 68, 69] (fun i => [(3, iT i)]) (fun i => [(2, .box 46 ((eTm t).map .im))]) (fun i => i ≤ t.args.length ∧ ∀ a ∈ t.args.take i, BsT false a) (fun i => t.args.length - i) (0) (⟨Nat.zero_le _, fun s hs => by simp at hs⟩) ((And.intro @eTm_eta @eTy_eta)) ?_; intro lx hI; obtain i := lx; (try simp only [List.nil_append, List.cons_append] at hI ⊢)
              by_cases hlt : lx < t.args.length
              · refine Run ((And.intro (And.intro @eTm_eta @eTy_eta) (And.intro @hlt @g6))) ?_; repeat' (first | (with_reducible exact True.intro) | (with_reducible refine Lf.mk ?_ ?_) | (with_reducible intro hb))
                refine Cal ((And.intro @eTm_eta @eTy_eta)) (H _ (List.getElem_mem hlt)) ?_
                by_cases hf : BsT false t.args[lx]
                · have gf := eq_true hf
                  refine Run ((And.intro @eTm_eta (And.intro @eTy_eta @gf))) ?_; repeat' (first | (with_reducible exact True.intro) | (with_reducible refine Lf.mk ?_ ?_) | (with_reducible intro hb))
                  exact Nxt ((And.intro @eTm_eta @eTy_eta)) (lx + 1) (⟨by omega, ball_take hlt hI.2 hf⟩) (by first | omega | (simp; omega))
                · have gf := eq_false hf
                  have e := hno fun h => hf (hi.1 h _ (List.getElem_mem hlt))
                  refine Run ((And.intro (And.intro @eTm_eta @eTy_eta) (And.intro @gf @e))) ?_; repeat' (first | (with_reducible exact True.intro) | (with_reducible refine Lf.mk ?_ ?_) | (with_reducible intro hb))
              · have e : decide (BsT false t) = true := decide_eq_true (hi.2 (ball_end (by omega) hI.2))
                refine Run ((And.intro (And.intro @eTm_eta @eTy_eta) (And.intro @hlt @e))) ?_; repeat' (first | (with_reducible exact True.intro) | (with_reducible refine Lf.mk ?_ ?_) | (with_reducible intro hb))
            · have g12 := eq_false k12
              have e := hno fun h => by rw [BsT_eta] at h; rcases h with h | h; exact k1 h.1; obtain ⟨_, h⟩ := h.2.2.2.1 k10; exact k12 h
              refine Run ((And.intro (And.intro (And.intro @eTm_eta @eTy_eta) (And.intro @g13 (And.intro @g14 @g1))) (And.intro (And.intro @g10 @h0) (And.intro @hz0 (And.intro @g12 @e))))) ?_; repeat' (first | (with_reducible exact True.intro) | (with_reducible refine Lf.mk ?_ ?_) | (with_reducible intro hb))
          · have hz0 : ((t.args.length : Int) = 0) = True := eq_true (by omega)
            have e := hno fun h => by rw [BsT_eta] at h; rcases h with h | h; exact k1 h.1; obtain ⟨h, _⟩ := h.2.2.2.1 k10; exact h0 h
            refine Run ((And.intro (And.intro (And.intro @eTm_eta @eTy_eta) (And.intro @g13 @g14)) (And.intro (And.intro @g1 @g10) (And.intro @hz0 @e)))) ?_; repeat' (first | (with_reducible exact True.intro) | (with_reducible refine Lf.mk ?_ ?_) | (with_reducible intro hb))
        · have g10 := eq_false k10
          have hi := hiff fun h => absurd h k10
          refine Run ((And.intro (And.intro @eTm_eta (And.intro @eTy_eta @g13)) (And.intro @g14 (And.intro @g1 @g10)))) ?_; repeat' (first | (with_reducible exact True.intro) | (with_reducible refine Lf.mk ?_ ?_) | (with_reducible intro hb))
          refine Trn (α := Nat) [2, 3, 34, 35, 36, 37, 38, 39, 40, 41, 42, 43, 44, 45, 46, 47, 48, 49, 50, 51, 52, 53, 54, 55, 56, 57, 58, 59, 60, 61, 62, 63, 64, 65, 66, 67, 68, 69] (fun i => [(3, iT i)]) (fun i => [(2, .box 46 ((eTm t).map .im))]) (fun i => i ≤ t.args.length ∧ ∀ a ∈ t.args.take i, BsT (decide (t.kind = 6)) a) (fun i => t.args.length - i) (0) (⟨Nat.zero_le _, fun s hs => by simp at hs⟩) ((And.intro @eTm_eta @eTy_eta)) ?_; intro lx hI; obtain i := lx; (try simp only [List.nil_append, List.cons_append] at hI ⊢)
          by_cases hlt : lx < t.args.length
          · by_cases k6 : t.kind = 6
            · have g6 := eq_true k6
              have e6 : decide (t.kind = 6) = true := decide_eq_true k6
              by_cases ka : t.args[lx].kind = 1
              · have ga := eq_true ka
                have hz0 : ((t.args[lx].args.length : Int) = 0) = True := eq_true (by have := nd_leaf ((TmF_eta _).1 (hFa _ (List.getElem_mem hlt))).1 ka; omega)
                refine Run ((And.intro (And.intro @eTm_eta (And.intro @eTy_eta @hlt)) (And.intro @g6 (And.intro @ga @hz0)))) ?_; repeat' (first | (with_reducible exact True.intro) | (with_reducible refine Lf.mk ?_ ?_) | (with_reducible intro hb))
                have hX : ∀ a ∈ t.args.take (lx + 1), BsT (decide (t.kind = 6)) a := ball_take hlt hI.2 (by rw [e6]; exact BsT_one ka)
                rw [e6] at hX
                exact Nxt ((And.intro @eTm_eta @eTy_eta)) (lx + 1) (⟨by omega, hX⟩) (by first | omega | (simp; omega))
              · have ga := eq_false ka
                have hsw := BsT_swap (f := decide (t.kind = 6)) (a := t.args[lx]) fun _ => ka
                refine Run ((And.intro (And.intro @eTm_eta @eTy_eta) (And.intro @hlt (And.intro @g6 @ga)))) ?_; repeat' (first | (with_reducible exact True.intro) | (with_reducible refine Lf.mk ?_ ?_) | (with_reducible intro hb))
                refine Cal ((And.intro @eTm_eta @eTy_eta)) (H _ (List.getElem_mem hlt)) ?_
                by_cases hf : BsT false t.args[lx]
                · have gf := eq_true hf
                  refine Run ((And.intro @eTm_eta (And.intro @eTy_eta @gf))) ?_; repeat' (first | (with_reducible exact True.intro) | (with_reducible refine Lf.mk ?_ ?_) | (with_reducible intro hb))
                  have hX : ∀ a ∈ t.args.take (lx + 1), BsT (decide (t.kind = 6)) a := ball_take hlt hI.2 (hsw.2 hf)
                  rw [e6] at hX
                  exact Nxt ((And.intro @eTm_eta @eTy_eta)) (lx + 1) (⟨by omega, hX⟩) (by first | omega | (simp; omega))
                · have gf := eq_false hf
                  have e := hno fun h => hf (hsw.1 (hi.1 h _ (List.getElem_mem hlt)))
                  refine Run ((And.intro (And.intro @eTm_eta @eTy_eta) (And.intro @gf @e))) ?_; repeat' (first | (with_reducible exact True.intro) | (with_reducible refine Lf.mk ?_ ?_) | (with_reducible intro hb))
            · have g6 := eq_false k6
              have e6 : decide (t.kind = 6) = false := decide_eq_false k6
              have hsw := BsT_swap (f := decide (t.kind = 6)) (a := t.args[lx]) fun h => absurd (of_decide_eq_true h) k6
              refine Run ((And.intro (And.intro @eTm_eta @eTy_eta) (And.intro @hlt @g6))) ?_; repeat' (first | (with_reducible exact True.intro) | (with_reducible refine Lf.mk ?_ ?_) | (with_reducible intro hb))
              refine Cal ((And.intro @eTm_eta @eTy_eta)) (H _ (List.getElem_mem hlt)) ?_
              by_cases hf : BsT false t.args[lx]
              · have gf := eq_true hf
                refine Run ((And.intro @eTm_eta (And.intro @eTy_eta @gf))) ?_; repeat' (first | (with_reducible exact True.intro) | (with_reducible refine Lf.mk ?_ ?_) | (with_reducible intro hb))
                have hX : ∀ a ∈ t.args.take (lx + 1), BsT (decide (t.kind = 6)) a := ball_take hlt hI.2 (hsw.2 hf)
                rw [e6] at hX
                exact Nxt ((And.intro @eTm_eta @eTy_eta)) (lx + 1) (⟨by omega, hX⟩) (by first | omega | (simp; omega))
              · have gf := eq_false hf
                have e := hno fun h => hf (hsw.1 (hi.1 h _ (List.getElem_mem hlt)))
                refine Run ((And.intro (And.intro @eTm_eta @eTy_eta) (And.intro @gf @e))) ?_; repeat' (first | (with_reducible exact True.intro) | (with_reducible refine Lf.mk ?_ ?_) | (with_reducible intro hb))
          · have e : decide (BsT false t) = true := decide_eq_true (hi.2 (ball_end (by omega) hI.2))
            refine Run ((And.intro (And.intro @eTm_eta @eTy_eta) (And.intro @hlt @e))) ?_; repeat' (first | (with_reducible exact True.intro) | (with_reducible refine Lf.mk ?_ ?_) | (with_reducible intro hb))

theorem specBase_ok (t : Tm) (h : okTm (2^20) t) (hF : TmF t) : FnP Tryz.prog 66 [agT (eTm t)] (bT (decide (BsT false t))) :=
  base_loop t h hF fun u hu => specBase_ok u ((okTm_iff.1 h).2.2.2.2.2.2 u hu) (((TmF_eta t).1 hF).2 u hu)
termination_by SizeOf.sizeOf t
decreasing_by exact Tm.mem hu
end Go.VC.T
/- Fields of terms: the reference. -/
namespace Go.VC
open Go
/-- What the reference asks of a term's fields. -/
def FdOk (e : Tm) : Prop := (e.kind = 4 → opAr e.name ≠ 0) ∧ NdNm e ∧ NdTy e ∧ (e.kind = 5 → LabsOk e.labels) ∧ (¬ e.kind = 5 → e.labels.length = 0) ∧ 0 ≤ e.n ∧ e.n ≤ mostK e.kind
noncomputable instance (e : Tm) : Decidable (FdOk e) := Classical.propDecidable _
theorem zero_not {t : Ty} (h : zeroTy t) : ¬ TyOk t := fun h2 => by have := (thd_kind h2.hd).1; have := h.1; omega
end Go.VC
namespace Go.VC.T
open Go Go.VC Go.Proofs Go.VC.F
set_option linter.unusedSimpArgs false
set_option linter.unusedVariables false
set_option linter.defProp false
set_option maxRecDepth 100000
set_option maxHeartbeats 2000000
def fc83A96 := (And.intro (And.intro (And.intro sz3 ag3) (And.intro zv3 un3)) (And.intro (And.intro sz4 ag4) (And.intro zv4 un4)))
theorem l1In_b (x lo hi : Int) (b : Bool) (hbb : b = decide (lo ≤ x ∧ x ≤ hi)) : FnS Tryz.prog 83 [] [iT x, iT lo, iT hi] [] (bT b) := by
  refine FnS.go [0, 1, 2, 6] [] Tryz.func83 rfl (fun kt kz => ?_)
  have fcx := fc83A96
  simp only [Tryz.f83]
  by_cases h : lo ≤ x
  · have g := eq_true h
    have e : decide (x ≤ hi) = b := by rw [hbb]; exact decide_eq_decide.2 ⟨fun h2 => ⟨h, h2⟩, fun h => h.2⟩
    refine Run ((And.intro @g @e)) ?_; repeat' (first | (with_reducible exact True.intro) | (with_reducible refine Lf.mk ?_ ?_) | (with_reducible intro hb))
  · have g := eq_false h
    have e : b = false := by rw [hbb]; exact decide_eq_false fun h2 => h h2.1
    refine Run ((And.intro @g @e)) ?_; repeat' (first | (with_reducible exact True.intro) | (with_reducible refine Lf.mk ?_ ?_) | (with_reducible intro hb))

theorem l1In_t (x lo hi : Int) : FnP Tryz.prog 83 [iT x, iT lo, iT hi] (bT (decide (lo ≤ x ∧ x ≤ hi))) := l1In_b x lo hi _ rfl
def fc88A96 := (And.intro (And.intro (And.intro (And.intro (And.intro sz3 (And.intro ag3 zv3)) (And.intro un3 (And.intro sz4 ag4))) (And.intro (And.intro zv4 (And.intro un4 sz9)) (And.intro ag9 (And.intro zv9 un9)))) (And.intro (And.intro (And.intro sz25 (And.intro ag25 zv25)) (And.intro sb25 (And.intro un25 el25))) (And.intro (And.intro ap25 (And.intro sz41 ag41)) (And.intro (And.intro zv41 sb41) (And.intro un41 el41))))) (And.intro (And.intro (And.intro (And.intro ap41 (And.intro sz43 ag43)) (And.intro zv43 (And.intro fl43_0 fl43_1))) (And.intro (And.intro fl43_2 (And.intro pl43 sz46)) (And.intro ag46 (And.intro zv46 fl46_0)))) (And.intro (And.intro (And.intro fl46_1 (And.intro fl46_2 fl46_3)) (And.intro fl46_4 (And.intro fl46_5 pl46))) (And.intro (And.intro okf62 (And.intro okf64 okf83)) (And.intro (And.intro okf102 okf104) (And.intro okf105 sz44))))))
theorem l7Fields_ok (e : Tm) (h : okTm (2^20) e) (hz : zTm e ≤ 2^40) : FnS Tryz.prog 88 [] [agT (eTm e)] [] (bT (decide (FdOk e))) := by
  refine FnS.go [0, 1, 2, 3, 4, 7, 11, 29, 66, 86, 88, 89, 91] [] Tryz.func88 rfl (fun kt kz => ?_)
  have fcx := fc88A96
  simp only [Tryz.f88]
  have ho := okTm_iff.1 h
  have hzt : zTy e.ty ≤ 2^40 := by have := zTm_eta e; omega
  have hns : e.name.size ≤ 2^48 := by have := ho.2.1; unfold okS at this; omega
  have hno : ¬ FdOk e → decide (FdOk e) = false := decide_eq_false
  by_cases k4 : e.kind = 4
  · have g4 := eq_true k4
    have g7 := eq_false (show ¬ e.kind = 7 by omega)
    have g13 := eq_false (show ¬ e.kind = 13 by omega)
    have ktt : ¬ tyK e.kind := by unfold tyK; omega
    have kn : ¬ nmK e.kind := by unfold nmK; omega
    have hn : NdNm e := by unfold NdNm; rw [if_neg kn]; exact .inl k4
    refine Run ((And.intro @eTm_eta (And.intro @eTy_eta @g4))) ?_; repeat' (first | (with_reducible exact True.intro) | (with_reducible refine Lf.mk ?_ ?_) | (with_reducible intro hb))
    refine Cal ((And.intro @eTm_eta @eTy_eta)) (specArity_ok e.name) ?_
    by_cases c : opAr e.name = 0
    · have gc : (((opAr e.name : Nat) : Int) = 0) = True := eq_true (by omega)
      have er := hno fun h => h.1 k4 c
      refine Run ((And.intro (And.intro @eTm_eta @eTy_eta) (And.intro @gc @er))) ?_; repeat' (first | (with_reducible exact True.intro) | (with_reducible refine Lf.mk ?_ ?_) | (with_reducible intro hb))
    · have gc : (((opAr e.name : Nat) : Int) = 0) = False := eq_false (by omega)
      have hop : e.kind = 4 → opAr e.name ≠ 0 := fun _ => c
      refine Run ((And.intro (And.intro @eTm_eta (And.intro @eTy_eta @g4)) (And.intro @gc (And.intro @g7 @g13)))) ?_; repeat' (first | (with_reducible exact True.intro) | (with_reducible refine Lf.mk ?_ ?_) | (with_reducible intro hb))
      refine Cal ((And.intro @eTm_eta @eTy_eta)) (specTyOk_ok e.ty ho.2.2.2.1 hzt) ?_
      by_cases cz : zeroTy e.ty
      · have gt := eq_false (zero_not cz)
        have hy : NdTy e := by unfold NdTy; rw [if_neg ktt]; exact cz
        have z1 := eq_true cz.1
        have z2 : (0 < (e.ty.labels.length : Int)) = False := eq_false (by have := cz.2.1; omega)
        have z3 : (0 < (e.ty.args.length : Int)) = False := eq_false (by have := cz.2.2; omega)
        have k2 : ¬ e.kind = 2 := by omega
        have g2 := eq_false k2
        have k3 : ¬ e.kind = 3 := by omega
        have g3 := eq_false k3
        have k5 : ¬ e.kind = 5 := by omega
        have g5 := eq_false k5
        by_cases cl : e.labels.length = 0
        · have gl : (0 < (e.labels.length : Int)) = False := eq_false (by omega)
          have hl : ¬ e.kind = 5 → e.labels.length = 0 := fun _ => cl
          have hl5 : e.kind = 5 → LabsOk e.labels := fun h => absurd h k5
          have em : mostK e.kind = 0 := by simp [mostK, k2, k3]
          have er : decide (0 ≤ e.n ∧ e.n ≤ 0) = decide (FdOk e) := decide_eq_decide.2 ⟨fun h => ⟨hop, hn, hy, hl5, hl, h.1, by rw [em]; exact h.2⟩, fun h => ⟨h.2.2.2.2.2.1, by have := h.2.2.2.2.2.2; rwa [em] at this⟩⟩
          refine Run ((And.intro (And.intro (And.intro @eTm_eta (And.intro @eTy_eta @g4)) (And.intro (And.intro @gc @g7) (And.intro @g13 @gt))) (And.intro (And.intro @z1 (And.intro @z2 @z3)) (And.intro (And.intro @g2 @g3) (And.intro @g5 @gl))))) ?_; repeat' (first | (with_reducible exact True.intro) | (with_reducible refine Lf.mk ?_ ?_) | (with_reducible intro hb))
          refine Cal ((And.intro @eTm_eta @eTy_eta)) (l1In_t e.n 0 0) ?_
          refine Run ((And.intro @eTm_eta (And.intro @eTy_eta @er))) ?_; repeat' (first | (with_reducible exact True.intro) | (with_reducible refine Lf.mk ?_ ?_) | (with_reducible intro hb))
        · have gl : (0 < (e.labels.length : Int)) = True := eq_true (by omega)
          have er := hno fun h => cl (h.2.2.2.2.1 k5)
          refine Run ((And.intro (And.intro (And.intro @eTm_eta (And.intro @eTy_eta @g4)) (And.intro (And.intro @gc @g7) (And.intro @g13 @gt))) (And.intro (And.intro (And.intro @z1 @z2) (And.intro @z3 @g2)) (And.intro (And.intro @g3 @g5) (And.intro @gl @er))))) ?_; repeat' (first | (with_reducible exact True.intro) | (with_reducible refine Lf.mk ?_ ?_) | (with_reducible intro hb))
      · have er := hno fun h => cz (by have := h.2.2.1; unfold NdTy at this; rwa [if_neg ktt] at this)
        by_cases ct : TyOk e.ty
        · have gt := eq_true ct
          refine Run ((And.intro (And.intro (And.intro @eTm_eta @eTy_eta) (And.intro @g4 @gc)) (And.intro (And.intro @g7 @g13) (And.intro @gt @er)))) ?_; repeat' (first | (with_reducible exact True.intro) | (with_reducible refine Lf.mk ?_ ?_) | (with_reducible intro hb))
        · have gt := eq_false ct
          by_cases z1 : e.ty.kind = 0
          · have z1 := eq_true z1
            by_cases z2 : 0 < (e.ty.labels.length : Int)
            · have z2 := eq_true z2
              refine Run ((And.intro (And.intro (And.intro @eTm_eta @eTy_eta) (And.intro @g4 (And.intro @gc @g7))) (And.intro (And.intro @g13 @gt) (And.intro @z1 (And.intro @z2 @er))))) ?_; repeat' (first | (with_reducible exact True.intro) | (with_reducible refine Lf.mk ?_ ?_) | (with_reducible intro hb))
            · have z3 : (0 < (e.ty.args.length : Int)) = True := eq_true (by have : ¬ e.ty.args.length = 0 := fun h => cz ⟨of_eq_true z1, by omega, h⟩; omega)
              have z2 := eq_false z2
              refine Run ((And.intro (And.intro (And.intro @eTm_eta @eTy_eta) (And.intro @g4 (And.intro @gc @g7))) (And.intro (And.intro @g13 (And.intro @gt @z1)) (And.intro @z2 (And.intro @z3 @er))))) ?_; repeat' (first | (with_reducible exact True.intro) | (with_reducible refine Lf.mk ?_ ?_) | (with_reducible intro hb))
          · have z1 := eq_false z1
            refine Run ((And.intro (And.intro (And.intro @eTm_eta @eTy_eta) (And.intro @g4 @gc)) (And.intro (And.intro @g7 @g13) (And.intro @gt (And.intro @z1 @er))))) ?_; repeat' (first | (with_reducible exact True.intro) | (with_reducible refine Lf.mk ?_ ?_) | (with_reducible intro hb))
  · have g4 := eq_false k4
    have hop : e.kind = 4 → opAr e.name ≠ 0 := fun h => absurd h k4
    refine Run ((And.intro @eTm_eta (And.intro @eTy_eta @g4))) ?_; repeat' (first | (with_reducible exact True.intro) | (with_reducible refine Lf.mk ?_ ?_) | (with_reducible intro hb))
    refine Cal ((And.intro @eTm_eta @eTy_eta)) (l7Named_ok e.kind) ?_
    refine Run ((And.intro @eTm_eta @eTy_eta)) ?_; repeat' (first | (with_reducible exact True.intro) | (with_reducible refine Lf.mk ?_ ?_) | (with_reducible intro hb))
    refine Cal ((And.intro @eTm_eta @eTy_eta)) (specName_ok e.name hns) ?_
    by_cases kn : nmK e.kind
    · have gn := eq_true kn
      by_cases cn : NameOk e.name
      · have gm := eq_true cn
        have hn : NdNm e := by unfold NdNm; rw [if_pos kn]; exact cn
        refine Run ((And.intro (And.intro @eTm_eta @eTy_eta) (And.intro @gn @gm))) ?_; repeat' (first | (with_reducible exact True.intro) | (with_reducible refine Lf.mk ?_ ?_) | (with_reducible intro hb))
        refine Cal ((And.intro @eTm_eta @eTy_eta)) (l7Named_ok e.kind) ?_
        have kk := kn
        unfold nmK at kk
        have g7 := eq_false (show ¬ e.kind = 7 by omega)
        by_cases k13 : e.kind = 13
        · have g13 := eq_true k13
          have ktt : tyK e.kind := .inr k13
          refine Run ((And.intro (And.intro @eTm_eta (And.intro @eTy_eta @gn)) (And.intro @gm (And.intro @g7 @g13)))) ?_; repeat' (first | (with_reducible exact True.intro) | (with_reducible refine Lf.mk ?_ ?_) | (with_reducible intro hb))
          refine Cal ((And.intro @eTm_eta @eTy_eta)) (specTyOk_ok e.ty ho.2.2.2.1 hzt) ?_
          by_cases ct : TyOk e.ty
          · have gt := eq_true ct
            have hy : NdTy e := by unfold NdTy; rw [if_pos ktt]; exact ct
            have k2 : ¬ e.kind = 2 := by omega
            have g2 := eq_false k2
            have k3 : ¬ e.kind = 3 := by omega
            have g3 := eq_false k3
            have k5 : ¬ e.kind = 5 := by omega
            have g5 := eq_false k5
            by_cases cl : e.labels.length = 0
            · have gl : (0 < (e.labels.length : Int)) = False := eq_false (by omega)
              have hl : ¬ e.kind = 5 → e.labels.length = 0 := fun _ => cl
              have hl5 : e.kind = 5 → LabsOk e.labels := fun h => absurd h k5
              have em : mostK e.kind = 0 := by simp [mostK, k2, k3]
              have er : decide (0 ≤ e.n ∧ e.n ≤ 0) = decide (FdOk e) := decide_eq_decide.2 ⟨fun h => ⟨hop, hn, hy, hl5, hl, h.1, by rw [em]; exact h.2⟩, fun h => ⟨h.2.2.2.2.2.1, by have := h.2.2.2.2.2.2; rwa [em] at this⟩⟩
              refine Run ((And.intro (And.intro (And.intro @eTm_eta @eTy_eta) (And.intro @gn (And.intro @gm @g7))) (And.intro (And.intro @g13 (And.intro @gt @g2)) (And.intro @g3 (And.intro @g5 @gl))))) ?_; repeat' (first | (with_reducible exact True.intro) | (with_reducible refine Lf.mk ?_ ?_) | (with_reducible intro hb))
              refine Cal ((And.intro @eTm_eta @eTy_eta)) (l1In_t e.n 0 0) ?_
              refine Run ((And.intro @eTm_eta (And.intro @eTy_eta @er))) ?_; repeat' (first | (with_reducible exact True.intro) | (with_reducible refine Lf.mk ?_ ?_) | (with_reducible intro hb))
            · have gl : (0 < (e.labels.length : Int)) = True := eq_true (by omega)
              have er := hno fun h => cl (h.2.2.2.2.1 k5)
              refine Run ((And.intro (And.intro (And.intro @eTm_eta (And.intro @eTy_eta @gn)) (And.intro @gm (And.intro @g7 @g13))) (And.intro (And.intro @gt (And.intro @g2 @g3)) (And.intro @g5 (And.intro @gl @er))))) ?_; repeat' (first | (with_reducible exact True.intro) | (with_reducible refine Lf.mk ?_ ?_) | (with_reducible intro hb))
          · have gt := eq_false ct
            have er := hno fun h => ct (by have := h.2.2.1; unfold NdTy at this; rwa [if_pos ktt] at this)
            refine Run ((And.intro (And.intro (And.intro @eTm_eta @eTy_eta) (And.intro @gn @gm)) (And.intro (And.intro @g7 @g13) (And.intro @gt @er)))) ?_; repeat' (first | (with_reducible exact True.intro) | (with_reducible refine Lf.mk ?_ ?_) | (with_reducible intro hb))
        · have g13 := eq_false k13
          have ktt : ¬ tyK e.kind := by unfold tyK; omega
          refine Run ((And.intro (And.intro @eTm_eta (And.intro @eTy_eta @gn)) (And.intro @gm (And.intro @g7 @g13)))) ?_; repeat' (first | (with_reducible exact True.intro) | (with_reducible refine Lf.mk ?_ ?_) | (with_reducible intro hb))
          refine Cal ((And.intro @eTm_eta @eTy_eta)) (specTyOk_ok e.ty ho.2.2.2.1 hzt) ?_
          by_cases cz : zeroTy e.ty
          · have gt := eq_false (zero_not cz)
            have hy : NdTy e := by unfold NdTy; rw [if_neg ktt]; exact cz
            have z1 := eq_true cz.1
            have z2 : (0 < (e.ty.labels.length : Int)) = False := eq_false (by have := cz.2.1; omega)
            have z3 : (0 < (e.ty.args.length : Int)) = False := eq_false (by have := cz.2.2; omega)
            have k2 : ¬ e.kind = 2 := by omega
            have g2 := eq_false k2
            have k3 : ¬ e.kind = 3 := by omega
            have g3 := eq_false k3
            have k5 : ¬ e.kind = 5 := by omega
            have g5 := eq_false k5
            by_cases cl : e.labels.length = 0
            · have gl : (0 < (e.labels.length : Int)) = False := eq_false (by omega)
              have hl : ¬ e.kind = 5 → e.labels.length = 0 := fun _ => cl
              have hl5 : e.kind = 5 → LabsOk e.labels := fun h => absurd h k5
              have em : mostK e.kind = 0 := by simp [mostK, k2, k3]
              have er : decide (0 ≤ e.n ∧ e.n ≤ 0) = decide (FdOk e) := decide_eq_decide.2 ⟨fun h => ⟨hop, hn, hy, hl5, hl, h.1, by rw [em]; exact h.2⟩, fun h => ⟨h.2.2.2.2.2.1, by have := h.2.2.2.2.2.2; rwa [em] at this⟩⟩
              refine Run ((And.intro (And.intro (And.intro @eTm_eta (And.intro @eTy_eta @gn)) (And.intro (And.intro @gm @g7) (And.intro @g13 @gt))) (And.intro (And.intro @z1 (And.intro @z2 @z3)) (And.intro (And.intro @g2 @g3) (And.intro @g5 @gl))))) ?_; repeat' (first | (with_reducible exact True.intro) | (with_reducible refine Lf.mk ?_ ?_) | (with_reducible intro hb))
              refine Cal ((And.intro @eTm_eta @eTy_eta)) (l1In_t e.n 0 0) ?_
              refine Run ((And.intro @eTm_eta (And.intro @eTy_eta @er))) ?_; repeat' (first | (with_reducible exact True.intro) | (with_reducible refine Lf.mk ?_ ?_) | (with_reducible intro hb))
            · have gl : (0 < (e.labels.length : Int)) = True := eq_true (by omega)
              have er := hno fun h => cl (h.2.2.2.2.1 k5)
              refine Run ((And.intro (And.intro (And.intro @eTm_eta (And.intro @eTy_eta @gn)) (And.intro (And.intro @gm @g7) (And.intro @g13 @gt))) (And.intro (And.intro (And.intro @z1 @z2) (And.intro @z3 @g2)) (And.intro (And.intro @g3 @g5) (And.intro @gl @er))))) ?_; repeat' (first | (with_reducible exact True.intro) | (with_reducible refine Lf.mk ?_ ?_) | (with_reducible intro hb))
          · have er := hno fun h => cz (by have := h.2.2.1; unfold NdTy at this; rwa [if_neg ktt] at this)
            by_cases ct : TyOk e.ty
            · have gt := eq_true ct
              refine Run ((And.intro (And.intro (And.intro @eTm_eta @eTy_eta) (And.intro @gn @gm)) (And.intro (And.intro @g7 @g13) (And.intro @gt @er)))) ?_; repeat' (first | (with_reducible exact True.intro) | (with_reducible refine Lf.mk ?_ ?_) | (with_reducible intro hb))
            · have gt := eq_false ct
              by_cases z1 : e.ty.kind = 0
              · have z1 := eq_true z1
                by_cases z2 : 0 < (e.ty.labels.length : Int)
                · have z2 := eq_true z2
                  refine Run ((And.intro (And.intro (And.intro @eTm_eta @eTy_eta) (And.intro @gn (And.intro @gm @g7))) (And.intro (And.intro @g13 @gt) (And.intro @z1 (And.intro @z2 @er))))) ?_; repeat' (first | (with_reducible exact True.intro) | (with_reducible refine Lf.mk ?_ ?_) | (with_reducible intro hb))
                · have z3 : (0 < (e.ty.args.length : Int)) = True := eq_true (by have : ¬ e.ty.args.length = 0 := fun h => cz ⟨of_eq_true z1, by omega, h⟩; omega)
                  have z2 := eq_false z2
                  refine Run ((And.intro (And.intro (And.intro @eTm_eta @eTy_eta) (And.intro @gn (And.intro @gm @g7))) (And.intro (And.intro @g13 (And.intro @gt @z1)) (And.intro @z2 (And.intro @z3 @er))))) ?_; repeat' (first | (with_reducible exact True.intro) | (with_reducible refine Lf.mk ?_ ?_) | (with_reducible intro hb))
              · have z1 := eq_false z1
                refine Run ((And.intro (And.intro (And.intro @eTm_eta @eTy_eta) (And.intro @gn @gm)) (And.intro (And.intro @g7 @g13) (And.intro @gt (And.intro @z1 @er))))) ?_; repeat' (first | (with_reducible exact True.intro) | (with_reducible refine Lf.mk ?_ ?_) | (with_reducible intro hb))
      · have gm := eq_false cn
        have er := hno fun h => cn (by have := h.2.1; unfold NdNm at this; rwa [if_pos kn] at this)
        refine Run ((And.intro (And.intro @eTm_eta @eTy_eta) (And.intro @gn (And.intro @gm @er)))) ?_; repeat' (first | (with_reducible exact True.intro) | (with_reducible refine Lf.mk ?_ ?_) | (with_reducible intro hb))
    · have gn := eq_false kn
      by_cases cn : NameOk e.name
      · have gm := eq_true cn
        have er := hno fun h => by
          have := h.2.1; unfold NdNm at this; rw [if_neg kn] at this
          have h2 := cn.2.1.1
          rcases this with h3 | h3
          · exact k4 h3
          · rw [h3] at h2; exact absurd h2 (by decide)
        refine Run ((And.intro (And.intro @eTm_eta @eTy_eta) (And.intro @gn (And.intro @gm @er)))) ?_; repeat' (first | (with_reducible exact True.intro) | (with_reducible refine Lf.mk ?_ ?_) | (with_reducible intro hb))
      · have gm := eq_false cn
        refine Run ((And.intro (And.intro @eTm_eta @eTy_eta) (And.intro @gn @gm))) ?_; repeat' (first | (with_reducible exact True.intro) | (with_reducible refine Lf.mk ?_ ?_) | (with_reducible intro hb))
        refine Cal ((And.intro @eTm_eta @eTy_eta)) (l7Named_ok e.kind) ?_
        by_cases ce : e.name = ⟨#[]⟩
        · have ge := eq_true ce
          have hn : NdNm e := by unfold NdNm; rw [if_neg kn]; exact .inr ce
          have kk := kn
          unfold nmK at kk
          have g13 := eq_false (show ¬ e.kind = 13 by omega)
          by_cases k7 : e.kind = 7
          · have g7 := eq_true k7
            have ktt : tyK e.kind := .inl k7
            refine Run ((And.intro (And.intro @eTm_eta (And.intro @eTy_eta @gn)) (And.intro @ge (And.intro @g7 @g13)))) ?_; repeat' (first | (with_reducible exact True.intro) | (with_reducible refine Lf.mk ?_ ?_) | (with_reducible intro hb))
            refine Cal ((And.intro @eTm_eta @eTy_eta)) (specTyOk_ok e.ty ho.2.2.2.1 hzt) ?_
            by_cases ct : TyOk e.ty
            · have gt := eq_true ct
              have hy : NdTy e := by unfold NdTy; rw [if_pos ktt]; exact ct
              have k2 : ¬ e.kind = 2 := by omega
              have g2 := eq_false k2
              have k3 : ¬ e.kind = 3 := by omega
              have g3 := eq_false k3
              have k5 : ¬ e.kind = 5 := by omega
              have g5 := eq_false k5
              by_cases cl : e.labels.length = 0
              · have gl : (0 < (e.labels.length : Int)) = False := eq_false (by omega)
                have hl : ¬ e.kind = 5 → e.labels.length = 0 := fun _ => cl
                have hl5 : e.kind = 5 → LabsOk e.labels := fun h => absurd h k5
                have em : mostK e.kind = 0 := by simp [mostK, k2, k3]
                have er : decide (0 ≤ e.n ∧ e.n ≤ 0) = decide (FdOk e) := decide_eq_decide.2 ⟨fun h => ⟨hop, hn, hy, hl5, hl, h.1, by rw [em]; exact h.2⟩, fun h => ⟨h.2.2.2.2.2.1, by have := h.2.2.2.2.2.2; rwa [em] at this⟩⟩
                refine Run ((And.intro (And.intro (And.intro @eTm_eta @eTy_eta) (And.intro @gn (And.intro @ge @g7))) (And.intro (And.intro @g13 (And.intro @gt @g2)) (And.intro @g3 (And.intro @g5 @gl))))) ?_; repeat' (first | (with_reducible exact True.intro) | (with_reducible refine Lf.mk ?_ ?_) | (with_reducible intro hb))
                refine Cal ((And.intro @eTm_eta @eTy_eta)) (l1In_t e.n 0 0) ?_
                refine Run ((And.intro @eTm_eta (And.intro @eTy_eta @er))) ?_; repeat' (first | (with_reducible exact True.intro) | (with_reducible refine Lf.mk ?_ ?_) | (with_reducible intro hb))
              · have gl : (0 < (e.labels.length : Int)) = True := eq_true (by omega)
                have er := hno fun h => cl (h.2.2.2.2.1 k5)
                refine Run ((And.intro (And.intro (And.intro @eTm_eta (And.intro @eTy_eta @gn)) (And.intro @ge (And.intro @g7 @g13))) (And.intro (And.intro @gt (And.intro @g2 @g3)) (And.intro @g5 (And.intro @gl @er))))) ?_; repeat' (first | (with_reducible exact True.intro) | (with_reducible refine Lf.mk ?_ ?_) | (with_reducible intro hb))
            · have gt := eq_false ct
              have er := hno fun h => ct (by have := h.2.2.1; unfold NdTy at this; rwa [if_pos ktt] at this)
              refine Run ((And.intro (And.intro (And.intro @eTm_eta @eTy_eta) (And.intro @gn @ge)) (And.intro (And.intro @g7 @g13) (And.intro @gt @er)))) ?_; repeat' (first | (with_reducible exact True.intro) | (with_reducible refine Lf.mk ?_ ?_) | (with_reducible intro hb))
          · have g7 := eq_false k7
            have ktt : ¬ tyK e.kind := by unfold tyK; omega
            refine Run ((And.intro (And.intro @eTm_eta (And.intro @eTy_eta @gn)) (And.intro @ge (And.intro @g7 @g13)))) ?_; repeat' (first | (with_reducible exact True.intro) | (with_reducible refine Lf.mk ?_ ?_) | (with_reducible intro hb))
            refine Cal ((And.intro @eTm_eta @eTy_eta)) (specTyOk_ok e.ty ho.2.2.2.1 hzt) ?_
            by_cases cz : zeroTy e.ty
            · have gt := eq_false (zero_not cz)
              have hy : NdTy e := by unfold NdTy; rw [if_neg ktt]; exact cz
              have z1 := eq_true cz.1
              have z2 : (0 < (e.ty.labels.length : Int)) = False := eq_false (by have := cz.2.1; omega)
              have z3 : (0 < (e.ty.args.length : Int)) = False := eq_false (by have := cz.2.2; omega)
              by_cases k5 : e.kind = 5
              · have g5 := eq_true k5
                have k2 : ¬ e.kind = 2 := by omega
                have k3 : ¬ e.kind = 3 := by omega
                have g2 := eq_false k2
                have g3 := eq_false k3
                refine Run ((And.intro (And.intro (And.intro @eTm_eta @eTy_eta) (And.intro @gn (And.intro @ge @g7))) (And.intro (And.intro @g13 (And.intro @gt @z1)) (And.intro @z2 (And.intro @z3 @g5))))) ?_; repeat' (first | (with_reducible exact True.intro) | (with_reducible refine Lf.mk ?_ ?_) | (with_reducible intro hb))
                refine Cal ((And.intro @eTm_eta @eTy_eta)) (specLabs_ok e.labels ho.2.2.2.2.1) ?_
                by_cases cl : LabsOk e.labels
                · have gl := eq_true cl
                  have hl : ¬ e.kind = 5 → e.labels.length = 0 := fun h => absurd k5 h
                  have hl5 : e.kind = 5 → LabsOk e.labels := fun _ => cl
                  have em : mostK e.kind = 0 := by simp [mostK, k2, k3]
                  have er : decide (0 ≤ e.n ∧ e.n ≤ 0) = decide (FdOk e) := decide_eq_decide.2 ⟨fun h => ⟨hop, hn, hy, hl5, hl, h.1, by rw [em]; exact h.2⟩, fun h => ⟨h.2.2.2.2.2.1, by have := h.2.2.2.2.2.2; rwa [em] at this⟩⟩
                  refine Run ((And.intro (And.intro (And.intro @eTm_eta (And.intro @eTy_eta @gn)) (And.intro (And.intro @ge @g7) (And.intro @g13 @gt))) (And.intro (And.intro @z1 (And.intro @z2 @z3)) (And.intro (And.intro @g5 @gl) (And.intro @g2 @g3))))) ?_; repeat' (first | (with_reducible exact True.intro) | (with_reducible refine Lf.mk ?_ ?_) | (with_reducible intro hb))
                  refine Cal ((And.intro @eTm_eta @eTy_eta)) (l1In_t e.n 0 0) ?_
                  refine Run ((And.intro @eTm_eta (And.intro @eTy_eta @er))) ?_; repeat' (first | (with_reducible exact True.intro) | (with_reducible refine Lf.mk ?_ ?_) | (with_reducible intro hb))
                · have gl := eq_false cl
                  have er := hno fun h => cl (h.2.2.2.1 k5)
                  refine Run ((And.intro (And.intro (And.intro @eTm_eta (And.intro @eTy_eta @gn)) (And.intro @ge (And.intro @g7 @g13))) (And.intro (And.intro @gt (And.intro @z1 @z2)) (And.intro (And.intro @z3 @g5) (And.intro @gl @er))))) ?_; repeat' (first | (with_reducible exact True.intro) | (with_reducible refine Lf.mk ?_ ?_) | (with_reducible intro hb))
              · have g5 := eq_false k5
                by_cases cl : e.labels.length = 0
                · have gl : (0 < (e.labels.length : Int)) = False := eq_false (by omega)
                  have hl : ¬ e.kind = 5 → e.labels.length = 0 := fun _ => cl
                  have hl5 : e.kind = 5 → LabsOk e.labels := fun h => absurd h k5
                  by_cases k2 : e.kind = 2
                  · have g2 := eq_true k2
                    have em : mostK e.kind = 999 := by simp [mostK, k2]
                    have er : decide (0 ≤ e.n ∧ e.n ≤ 999) = decide (FdOk e) := decide_eq_decide.2 ⟨fun h => ⟨hop, hn, hy, hl5, hl, h.1, by rw [em]; exact h.2⟩, fun h => ⟨h.2.2.2.2.2.1, by have := h.2.2.2.2.2.2; rwa [em] at this⟩⟩
                    refine Run ((And.intro (And.intro (And.intro @eTm_eta (And.intro @eTy_eta @gn)) (And.intro @ge (And.intro @g7 @g13))) (And.intro (And.intro @gt (And.intro @z1 @z2)) (And.intro (And.intro @z3 @g5) (And.intro @gl @g2))))) ?_; repeat' (first | (with_reducible exact True.intro) | (with_reducible refine Lf.mk ?_ ?_) | (with_reducible intro hb))
                    refine Cal ((And.intro @eTm_eta @eTy_eta)) (l1In_t e.n 0 999) ?_
                    refine Run ((And.intro @eTm_eta (And.intro @eTy_eta @er))) ?_; repeat' (first | (with_reducible exact True.intro) | (with_reducible refine Lf.mk ?_ ?_) | (with_reducible intro hb))
                  · have g2 := eq_false k2
                    by_cases k3 : e.kind = 3
                    · have g3 := eq_true k3
                      have em : mostK e.kind = 1 := by simp [mostK, k2, k3]
                      have er : decide (0 ≤ e.n ∧ e.n ≤ 1) = decide (FdOk e) := decide_eq_decide.2 ⟨fun h => ⟨hop, hn, hy, hl5, hl, h.1, by rw [em]; exact h.2⟩, fun h => ⟨h.2.2.2.2.2.1, by have := h.2.2.2.2.2.2; rwa [em] at this⟩⟩
                      refine Run ((And.intro (And.intro (And.intro @eTm_eta (And.intro @eTy_eta @gn)) (And.intro (And.intro @ge @g7) (And.intro @g13 @gt))) (And.intro (And.intro @z1 (And.intro @z2 @z3)) (And.intro (And.intro @g5 @gl) (And.intro @g2 @g3))))) ?_; repeat' (first | (with_reducible exact True.intro) | (with_reducible refine Lf.mk ?_ ?_) | (with_reducible intro hb))
                      refine Cal ((And.intro @eTm_eta @eTy_eta)) (l1In_t e.n 0 1) ?_
                      refine Run ((And.intro @eTm_eta (And.intro @eTy_eta @er))) ?_; repeat' (first | (with_reducible exact True.intro) | (with_reducible refine Lf.mk ?_ ?_) | (with_reducible intro hb))
                    · have g3 := eq_false k3
                      have em : mostK e.kind = 0 := by simp [mostK, k2, k3]
                      have er : decide (0 ≤ e.n ∧ e.n ≤ 0) = decide (FdOk e) := decide_eq_decide.2 ⟨fun h => ⟨hop, hn, hy, hl5, hl, h.1, by rw [em]; exact h.2⟩, fun h => ⟨h.2.2.2.2.2.1, by have := h.2.2.2.2.2.2; rwa [em] at this⟩⟩
                      refine Run ((And.intro (And.intro (And.intro @eTm_eta (And.intro @eTy_eta @gn)) (And.intro (And.intro @ge @g7) (And.intro @g13 @gt))) (And.intro (And.intro @z1 (And.intro @z2 @z3)) (And.intro (And.intro @g5 @gl) (And.intro @g2 @g3))))) ?_; repeat' (first | (with_reducible exact True.intro) | (with_reducible refine Lf.mk ?_ ?_) | (with_reducible intro hb))
                      refine Cal ((And.intro @eTm_eta @eTy_eta)) (l1In_t e.n 0 0) ?_
                      refine Run ((And.intro @eTm_eta (And.intro @eTy_eta @er))) ?_; repeat' (first | (with_reducible exact True.intro) | (with_reducible refine Lf.mk ?_ ?_) | (with_reducible intro hb))
                · have gl : (0 < (e.labels.length : Int)) = True := eq_true (by omega)
                  have er := hno fun h => cl (h.2.2.2.2.1 k5)
                  refine Run ((And.intro (And.intro (And.intro @eTm_eta (And.intro @eTy_eta @gn)) (And.intro @ge (And.intro @g7 @g13))) (And.intro (And.intro @gt (And.intro @z1 @z2)) (And.intro (And.intro @z3 @g5) (And.intro @gl @er))))) ?_; repeat' (first | (with_reducible exact True.intro) | (with_reducible refine Lf.mk ?_ ?_) | (with_reducible intro hb))
            · have er := hno fun h => cz (by have := h.2.2.1; unfold NdTy at this; rwa [if_neg ktt] at this)
              by_cases ct : TyOk e.ty
              · have gt := eq_true ct
                refine Run ((And.intro (And.intro (And.intro @eTm_eta @eTy_eta) (And.intro @gn @ge)) (And.intro (And.intro @g7 @g13) (And.intro @gt @er)))) ?_; repeat' (first | (with_reducible exact True.intro) | (with_reducible refine Lf.mk ?_ ?_) | (with_reducible intro hb))
              · have gt := eq_false ct
                by_cases z1 : e.ty.kind = 0
                · have z1 := eq_true z1
                  by_cases z2 : 0 < (e.ty.labels.length : Int)
                  · have z2 := eq_true z2
                    refine Run ((And.intro (And.intro (And.intro @eTm_eta @eTy_eta) (And.intro @gn (And.intro @ge @g7))) (And.intro (And.intro @g13 @gt) (And.intro @z1 (And.intro @z2 @er))))) ?_; repeat' (first | (with_reducible exact True.intro) | (with_reducible refine Lf.mk ?_ ?_) | (with_reducible intro hb))
                  · have z3 : (0 < (e.ty.args.length : Int)) = True := eq_true (by have : ¬ e.ty.args.length = 0 := fun h => cz ⟨of_eq_true z1, by omega, h⟩; omega)
                    have z2 := eq_false z2
                    refine Run ((And.intro (And.intro (And.intro @eTm_eta @eTy_eta) (And.intro @gn (And.intro @ge @g7))) (And.intro (And.intro @g13 (And.intro @gt @z1)) (And.intro @z2 (And.intro @z3 @er))))) ?_; repeat' (first | (with_reducible exact True.intro) | (with_reducible refine Lf.mk ?_ ?_) | (with_reducible intro hb))
                · have z1 := eq_false z1
                  refine Run ((And.intro (And.intro (And.intro @eTm_eta @eTy_eta) (And.intro @gn @ge)) (And.intro (And.intro @g7 @g13) (And.intro @gt (And.intro @z1 @er))))) ?_; repeat' (first | (with_reducible exact True.intro) | (with_reducible refine Lf.mk ?_ ?_) | (with_reducible intro hb))
        · have ge := eq_false ce
          have er := hno fun h => by have := h.2.1; unfold NdNm at this; rw [if_neg kn] at this; exact this.elim k4 ce
          refine Run ((And.intro (And.intro @eTm_eta @eTy_eta) (And.intro @gn (And.intro @ge @er)))) ?_; repeat' (first | (with_reducible exact True.intro) | (with_reducible refine Lf.mk ?_ ?_) | (with_reducible intro hb))

end Go.VC.T
/- Forms of terms: the reference. -/
namespace Go.VC
open Go
theorem ar_eq {e : Tm} (h4 : e.kind = 4 → opAr e.name ≠ 0) (h5 : e.kind = 5 → LabsOk e.labels) : arK e = some e.args.length ↔ (e.args.length : Int) = arS e := by
  unfold arK arS
  by_cases a1 : e.kind = 1 ∨ e.kind = 2 ∨ e.kind = 3 ∨ e.kind = 7 ∨ e.kind = 12
  · simp only [if_pos a1, Option.some.injEq]; omega
  · simp only [if_neg a1]
    by_cases a4 : e.kind = 4
    · simp only [if_pos a4, if_neg (h4 a4), Option.some.injEq]; omega
    · simp only [if_neg a4]
      by_cases a5 : e.kind = 5
      · simp only [if_pos a5, if_pos (h5 a5), Option.some.injEq]; omega
      · simp only [if_neg a5]
        by_cases a6 : e.kind = 6 ∨ e.kind = 8 ∨ e.kind = 13 ∨ e.kind = 15 ∨ e.kind = 16
        · simp only [if_pos a6, Option.some.injEq]; omega
        · simp only [if_neg a6]
          by_cases a9 : e.kind = 9 ∨ e.kind = 10 ∨ e.kind = 14
          · simp only [if_pos a9, Option.some.injEq]; omega
          · simp only [if_neg a9]
            by_cases a11 : e.kind = 11
            · simp only [if_pos a11, Option.some.injEq]; omega
            · simp only [if_neg a11]
              constructor
              · intro h; cases h
              · intro h; omega
theorem nd_fd {e : Tm} : NdOk e ↔ FdOk e ∧ (e.args.length : Int) = arS e := by
  constructor
  · intro h
    have h4 := nd_op h
    have h5 := fun k => (nd_rec h k).1
    exact ⟨⟨h4, h.2.2.2.1, h.2.2.2.2, h5, h.2.1, h.2.2.1⟩, (ar_eq h4 h5).1 h.1⟩
  · rintro ⟨⟨h4, hn, hy, h5, hl, hm⟩, ha⟩
    exact ⟨(ar_eq h4 h5).2 ha, hl, hm, hn, hy⟩
end Go.VC
namespace Go.VC.T
open Go Go.VC Go.Proofs Go.VC.F
set_option linter.unusedSimpArgs false
set_option linter.unusedVariables false
set_option linter.defProp false
set_option maxRecDepth 100000
set_option maxHeartbeats 2000000
def fc65A97 := (And.intro (And.intro (And.intro (And.intro sz3 (And.intro ag3 zv3)) (And.intro (And.intro un3 sz4) (And.intro ag4 zv4))) (And.intro (And.intro (And.intro un4 sz44) (And.intro ag44 zv44)) (And.intro (And.intro sb44 un44) (And.intro el44 ap44)))) (And.intro (And.intro (And.intro (And.intro sz46 ag46) (And.intro zv46 fl46_0)) (And.intro (And.intro fl46_1 fl46_2) (And.intro fl46_3 fl46_4))) (And.intro (And.intro (And.intro fl46_5 pl46) (And.intro okf65 okf88)) (And.intro (And.intro okf89 sz9) (And.intro sz43 sz25)))))
theorem l7Form_of (t : Tm) (h : okTm (2^20) t) (hz : zTm t ≤ 2^40) (H : ∀ u ∈ t.args, FnP Tryz.prog 65 [agT (eTm u)] (bT (decide (TmF u)))) : FnS Tryz.prog 65 [] [agT (eTm t)] [] (bT (decide (TmF t))) := by
  refine FnS.go [0, 1, 2, 3, 8, 17] [] Tryz.func65 rfl (fun kt kz => ?_)
  have fcx := fc65A97
  simp only [Tryz.f65]
  have ho := okTm_iff.1 h
  have hln := ho.2.2.2.2.2.1
  have hno : ¬ TmF t → decide (TmF t) = false := decide_eq_false
  refine Run ((And.intro @eTm_eta @eTy_eta)) ?_; repeat' (first | (with_reducible exact True.intro) | (with_reducible refine Lf.mk ?_ ?_) | (with_reducible intro hb))
  refine Trn (α := Nat) [2, 3, 4, 5, 6, 7, 8, 9, 10, 11, 12, 13, 14, 15, 16, 17] (fun i => [(3, iT i)]) (fun i => [(2, .box 46 ((eTm t).map .im))]) (fun i => i ≤ t.args.length ∧ ∀ a ∈ t.args.take i, TmF a) (fun i => t.args.length - i) (0) (⟨Nat.zero_le _, fun s hs => by simp at hs⟩) ((And.intro @eTm_eta @eTy_eta)) ?_; intro lx hI; obtain i := lx; (try simp only [List.nil_append, List.cons_append] at hI ⊢)
  by_cases hlt : lx < t.args.length
  · refine Run ((And.intro @eTm_eta (And.intro @eTy_eta @hlt))) ?_; repeat' (first | (with_reducible exact True.intro) | (with_reducible refine Lf.mk ?_ ?_) | (with_reducible intro hb))
    refine Cal ((And.intro @eTm_eta @eTy_eta)) (H _ (List.getElem_mem hlt)) ?_
    by_cases hf : TmF t.args[lx]
    · have gf := eq_true hf
      refine Run ((And.intro @eTm_eta (And.intro @eTy_eta @gf))) ?_; repeat' (first | (with_reducible exact True.intro) | (with_reducible refine Lf.mk ?_ ?_) | (with_reducible intro hb))
      exact Nxt ((And.intro @eTm_eta @eTy_eta)) (lx + 1) (⟨by omega, ball_take hlt hI.2 hf⟩) (by first | omega | (simp; omega))
    · have gf := eq_false hf
      have e := hno fun h => hf ((TmF_eta t).1 h |>.2 _ (List.getElem_mem hlt))
      refine Run ((And.intro (And.intro @eTm_eta @eTy_eta) (And.intro @gf @e))) ?_; repeat' (first | (with_reducible exact True.intro) | (with_reducible refine Lf.mk ?_ ?_) | (with_reducible intro hb))
  · have hall : ∀ a ∈ t.args, TmF a := ball_end (by omega) hI.2
    refine Run ((And.intro @eTm_eta (And.intro @eTy_eta @hlt))) ?_; repeat' (first | (with_reducible exact True.intro) | (with_reducible refine Lf.mk ?_ ?_) | (with_reducible intro hb))
    refine Cal ((And.intro @eTm_eta @eTy_eta)) (l7Fields_ok t h hz) ?_
    by_cases hd : FdOk t
    · have gd := eq_true hd
      have e : decide ((t.args.length : Int) = arS t) = decide (TmF t) := decide_eq_decide.2 ⟨fun h => (TmF_eta t).2 ⟨nd_fd.2 ⟨hd, h⟩, hall⟩, fun h => (nd_fd.1 ((TmF_eta t).1 h).1).2⟩
      refine Run ((And.intro @eTm_eta (And.intro @eTy_eta @gd))) ?_; repeat' (first | (with_reducible exact True.intro) | (with_reducible refine Lf.mk ?_ ?_) | (with_reducible intro hb))
      refine Cal ((And.intro @eTm_eta @eTy_eta)) (l7Arity_ok t h) ?_
      refine Run ((And.intro @eTm_eta (And.intro @eTy_eta @e))) ?_; repeat' (first | (with_reducible exact True.intro) | (with_reducible refine Lf.mk ?_ ?_) | (with_reducible intro hb))
    · have gd := eq_false hd
      have e := hno fun h => hd (nd_fd.1 ((TmF_eta t).1 h).1).1
      refine Run ((And.intro (And.intro @eTm_eta @eTy_eta) (And.intro @gd @e))) ?_; repeat' (first | (with_reducible exact True.intro) | (with_reducible refine Lf.mk ?_ ?_) | (with_reducible intro hb))

theorem l7Form_ok (t : Tm) (h : okTm (2^20) t) (hz : zTm t ≤ 2^40) : FnP Tryz.prog 65 [agT (eTm t)] (bT (decide (TmF t))) :=
  l7Form_of t h hz fun u hu => l7Form_ok u ((okTm_iff.1 h).2.2.2.2.2.2 u hu) (by have := zTm_arg hu; omega)
termination_by SizeOf.sizeOf t
decreasing_by exact Tm.mem hu
end Go.VC.T
/- What types terms have: the reference, leaves. -/
namespace Go.VC.T
open Go Go.VC Go.Proofs Go.VC.F
set_option linter.unusedSimpArgs false
set_option linter.unusedVariables false
set_option linter.defProp false
set_option maxRecDepth 100000
set_option maxHeartbeats 2000000
def fc107A98 := (And.intro (And.intro (And.intro (And.intro (And.intro sz3 (And.intro ag3 zv3)) (And.intro un3 (And.intro sz4 ag4))) (And.intro (And.intro zv4 (And.intro un4 sz9)) (And.intro ag9 (And.intro zv9 un9)))) (And.intro (And.intro (And.intro sz39 (And.intro ag39 zv39)) (And.intro fl39_0 (And.intro pl39 sz43))) (And.intro (And.intro ag43 (And.intro zv43 fl43_0)) (And.intro (And.intro fl43_1 fl43_2) (And.intro pl43 sz46))))) (And.intro (And.intro (And.intro (And.intro ag46 (And.intro zv46 fl46_0)) (And.intro fl46_1 (And.intro fl46_2 fl46_3))) (And.intro (And.intro fl46_4 (And.intro fl46_5 pl46)) (And.intro sz70 (And.intro ag70 zv70)))) (And.intro (And.intro (And.intro sb70 (And.intro un70 el70)) (And.intro ap70 (And.intro okf23 okf30))) (And.intro (And.intro okf46 (And.intro okf122 okf123)) (And.intro (And.intro sz37 sz25) (And.intro sz41 sz44))))))
theorem leaf1_of (s ctx : List Decl) (hc : ctx.length ≤ 2^40) (hoc : ∀ d ∈ ctx, okTy (2^20) d.row) (e : Tm) (k : e.kind = 1) : FnS Tryz.prog 107 [] [agT (eSch s), slT eDecl ctx, agT (eTm e)] [] (.tp [agT (eTy ((lookT ctx e.name).getD ty0)), bT (lookT ctx e.name).isSome]) := by
  refine FnS.go [0, 1, 2, 3, 5, 6, 7, 8, 9, 10, 11, 13, 14, 25, 28, 31] [] Tryz.func107 rfl (fun kt kz => ?_)
  have fcx := fc107A98
  simp only [Tryz.f107]
  have hh := look_ok ctx hc hoc e.name
  generalize lookT ctx e.name = L at *
  refine Run ((And.intro (And.intro @eSch_eta @eTm_eta) (And.intro @eTy_eta @k))) ?_; repeat' (first | (with_reducible exact True.intro) | (with_reducible refine Lf.mk ?_ ?_) | (with_reducible intro hb))
  refine CalI ((And.intro @eTm_eta @eTy_eta)) (hh) ?_
  refine Run ((And.intro @eTm_eta @eTy_eta)) ?_; repeat' (first | (with_reducible exact True.intro) | (with_reducible refine Lf.mk ?_ ?_) | (with_reducible intro hb))
  refine ⟨rfl, rfl, ?_⟩
  refine Run ((And.intro @eTm_eta @eTy_eta)) ?_; repeat' (first | (with_reducible exact True.intro) | (with_reducible refine Lf.mk ?_ ?_) | (with_reducible intro hb))
theorem leaf2_of (s ctx : List Decl) (e : Tm) (k : e.kind = 2) : FnS Tryz.prog 107 [] [agT (eSch s), slT eDecl ctx, agT (eTm e)] [] (.tp [agT (eTy tInt), bT true]) := by
  refine FnS.go [0, 1, 2, 3, 5, 6, 7, 8, 9, 10, 11, 13, 14, 25, 28, 31] [] Tryz.func107 rfl (fun kt kz => ?_)
  have fcx := fc107A98
  simp only [Tryz.f107]
  refine Run ((And.intro (And.intro @eSch_eta @eTm_eta) (And.intro @eTy_eta @k))) ?_; repeat' (first | (with_reducible exact True.intro) | (with_reducible refine Lf.mk ?_ ?_) | (with_reducible intro hb))
  refine CalI ((And.intro @eTm_eta @eTy_eta)) (sInt_t) ?_
  refine Run ((And.intro @eTm_eta @eTy_eta)) ?_; repeat' (first | (with_reducible exact True.intro) | (with_reducible refine Lf.mk ?_ ?_) | (with_reducible intro hb))
theorem leaf3_of (s ctx : List Decl) (e : Tm) (k : e.kind = 3) : FnS Tryz.prog 107 [] [agT (eSch s), slT eDecl ctx, agT (eTm e)] [] (.tp [agT (eTy tBool), bT true]) := by
  refine FnS.go [0, 1, 2, 3, 5, 6, 7, 8, 9, 10, 11, 13, 14, 25, 28, 31] [] Tryz.func107 rfl (fun kt kz => ?_)
  have fcx := fc107A98
  simp only [Tryz.f107]
  refine Run ((And.intro (And.intro @eSch_eta @eTm_eta) (And.intro @eTy_eta @k))) ?_; repeat' (first | (with_reducible exact True.intro) | (with_reducible refine Lf.mk ?_ ?_) | (with_reducible intro hb))
  refine CalI ((And.intro @eTm_eta @eTy_eta)) (sBool_t) ?_
  refine Run ((And.intro @eTm_eta @eTy_eta)) ?_; repeat' (first | (with_reducible exact True.intro) | (with_reducible refine Lf.mk ?_ ?_) | (with_reducible intro hb))
theorem leaf7_of (s ctx : List Decl) (e : Tm) (k : e.kind = 7) (h : okTy (2^20) e.ty) : FnS Tryz.prog 107 [] [agT (eSch s), slT eDecl ctx, agT (eTm e)] [] (.tp [agT (eTy (tBag e.ty)), bT true]) := by
  refine FnS.go [0, 1, 2, 3, 5, 6, 7, 8, 9, 10, 11, 13, 14, 25, 28, 31] [] Tryz.func107 rfl (fun kt kz => ?_)
  have fcx := fc107A98
  simp only [Tryz.f107]
  refine Run ((And.intro (And.intro @eSch_eta @eTm_eta) (And.intro @eTy_eta @k))) ?_; repeat' (first | (with_reducible exact True.intro) | (with_reducible refine Lf.mk ?_ ?_) | (with_reducible intro hb))
  refine CalI ((And.intro @eTm_eta @eTy_eta)) (sBag_t e.ty h) ?_
  refine Run ((And.intro @eTm_eta @eTy_eta)) ?_; repeat' (first | (with_reducible exact True.intro) | (with_reducible refine Lf.mk ?_ ?_) | (with_reducible intro hb))

end Go.VC.T
/- What types terms have: the reference, tables, plain forms. -/
namespace Go.VC.T
open Go Go.VC Go.Proofs Go.VC.F
set_option linter.unusedSimpArgs false
set_option linter.unusedVariables false
set_option linter.defProp false
set_option maxRecDepth 100000
set_option maxHeartbeats 2000000
def fc107A99 := (And.intro (And.intro (And.intro (And.intro (And.intro sz3 (And.intro ag3 zv3)) (And.intro un3 (And.intro sz4 ag4))) (And.intro (And.intro zv4 (And.intro un4 sz9)) (And.intro ag9 (And.intro zv9 un9)))) (And.intro (And.intro (And.intro sz39 (And.intro ag39 zv39)) (And.intro fl39_0 (And.intro pl39 sz43))) (And.intro (And.intro ag43 (And.intro zv43 fl43_0)) (And.intro (And.intro fl43_1 fl43_2) (And.intro pl43 sz46))))) (And.intro (And.intro (And.intro (And.intro ag46 (And.intro zv46 fl46_0)) (And.intro fl46_1 (And.intro fl46_2 fl46_3))) (And.intro (And.intro fl46_4 (And.intro fl46_5 pl46)) (And.intro sz70 (And.intro ag70 zv70)))) (And.intro (And.intro (And.intro sb70 (And.intro un70 el70)) (And.intro ap70 (And.intro okf23 okf30))) (And.intro (And.intro okf46 (And.intro okf122 okf123)) (And.intro (And.intro sz37 sz25) (And.intro sz41 sz44))))))
theorem leaf12_of (s ctx : List Decl) (hs : okSch (2^20) s) (e : Tm) (k : e.kind = 12) (hob : okTy (2^20) ((rowT s e.name).getD ty0)) : FnS Tryz.prog 107 [] [agT (eSch s), slT eDecl ctx, agT (eTm e)] [] (.tp [agT (eTy (tBag ((rowT s e.name).getD ty0))), bT (rowT s e.name).isSome]) := by
  refine FnS.go [0, 1, 2, 3, 5, 6, 7, 8, 9, 10, 11, 13, 14, 25, 28, 31] [] Tryz.func107 rfl (fun kt kz => ?_)
  have fcx := fc107A99
  simp only [Tryz.f107]
  have hh := specRowT_ok s hs e.name
  generalize rowT s e.name = L at *
  refine Run ((And.intro (And.intro @eSch_eta @eTm_eta) (And.intro @eTy_eta @k))) ?_; repeat' (first | (with_reducible exact True.intro) | (with_reducible refine Lf.mk ?_ ?_) | (with_reducible intro hb))
  refine CalI ((And.intro @eSch_eta (And.intro @eTm_eta @eTy_eta))) (hh) ?_
  refine Run ((And.intro @eSch_eta (And.intro @eTm_eta @eTy_eta))) ?_; repeat' (first | (with_reducible exact True.intro) | (with_reducible refine Lf.mk ?_ ?_) | (with_reducible intro hb))
  refine ⟨rfl, rfl, ?_⟩
  refine Run ((And.intro @eTm_eta @eTy_eta)) ?_; repeat' (first | (with_reducible exact True.intro) | (with_reducible refine Lf.mk ?_ ?_) | (with_reducible intro hb))
  refine CalI ((And.intro @eTm_eta @eTy_eta)) (sBag_t (L.getD ty0) hob) ?_
  refine Run ((And.intro @eTm_eta @eTy_eta)) ?_; repeat' (first | (with_reducible exact True.intro) | (with_reducible refine Lf.mk ?_ ?_) | (with_reducible intro hb))

end Go.VC.T
/- What types terms have: the reference, a term by its form. -/
namespace Go.VC.T
open Go Go.VC Go.Proofs Go.VC.F
set_option linter.unusedSimpArgs false
set_option linter.unusedVariables false
set_option linter.defProp false
set_option maxRecDepth 100000
set_option maxHeartbeats 2000000
def fc67A100 := (And.intro (And.intro (And.intro (And.intro (And.intro sz4 ag4) (And.intro zv4 (And.intro un4 sz39))) (And.intro (And.intro ag39 zv39) (And.intro fl39_0 (And.intro pl39 sz43)))) (And.intro (And.intro (And.intro ag43 zv43) (And.intro fl43_0 (And.intro fl43_1 fl43_2))) (And.intro (And.intro pl43 sz46) (And.intro ag46 (And.intro zv46 fl46_0))))) (And.intro (And.intro (And.intro (And.intro fl46_1 fl46_2) (And.intro fl46_3 (And.intro fl46_4 fl46_5))) (And.intro (And.intro pl46 sz70) (And.intro ag70 (And.intro zv70 sb70)))) (And.intro (And.intro (And.intro un70 el70) (And.intro ap70 (And.intro okf64 okf90))) (And.intro (And.intro sz37 (And.intro sz3 sz25)) (And.intro sz41 (And.intro sz9 sz44))))))
theorem sType_a (s ctx : List Decl) (e : Tm) (t : Ty) (ht : TyOk t) (H : FnP Tryz.prog 90 [agT (eSch s), slT eDecl ctx, agT (eTm e)] (.tp [agT (eTy t), bT true])) : FnS Tryz.prog 67 [] [agT (eSch s), slT eDecl ctx, agT (eTm e)] [] (.tp [agT (eTy t), bT true]) := by
  refine FnS.go [0, 1, 2, 3, 5, 6, 7, 8, 9, 23] [] Tryz.func67 rfl (fun kt kz => ?_)
  have fcx := fc67A100
  simp only [Tryz.f67]
  have gt := eq_true ht
  refine Run ((And.intro @eSch_eta (And.intro @eTm_eta @eTy_eta))) ?_; repeat' (first | (with_reducible exact True.intro) | (with_reducible refine Lf.mk ?_ ?_) | (with_reducible intro hb))
  refine CalI ((And.intro @eSch_eta (And.intro @eTm_eta @eTy_eta))) (H) ?_
  refine Run ((And.intro @eSch_eta (And.intro @eTm_eta @eTy_eta))) ?_; repeat' (first | (with_reducible exact True.intro) | (with_reducible refine Lf.mk ?_ ?_) | (with_reducible intro hb))
  refine ⟨rfl, rfl, ?_⟩
  refine Run ((And.intro @eTm_eta @eTy_eta)) ?_; repeat' (first | (with_reducible exact True.intro) | (with_reducible refine Lf.mk ?_ ?_) | (with_reducible intro hb))
  refine Cal (@eTy_eta) (specTyOk_ok t ht.ok (by have := ht.z; omega)) ?_
  refine Run ((And.intro @eTm_eta (And.intro @eTy_eta @gt))) ?_; repeat' (first | (with_reducible exact True.intro) | (with_reducible refine Lf.mk ?_ ?_) | (with_reducible intro hb))
theorem sType_b (s ctx : List Decl) (e : Tm) (t : Ty) (ht : ¬ TyOk t) (ho : okTy (2^20) t) (hz : zTy t ≤ 2^40) (H : FnP Tryz.prog 90 [agT (eSch s), slT eDecl ctx, agT (eTm e)] (.tp [agT (eTy t), bT true])) : FnS Tryz.prog 67 [] [agT (eSch s), slT eDecl ctx, agT (eTm e)] [] (.tp [.ag [.im (.sc (.int .i64 0)), .nl, .nl], bT false]) := by
  refine FnS.go [0, 1, 2, 3, 5, 6, 7, 8, 9, 23] [] Tryz.func67 rfl (fun kt kz => ?_)
  have fcx := fc67A100
  simp only [Tryz.f67]
  have gt := eq_false ht
  refine Run ((And.intro @eSch_eta (And.intro @eTm_eta @eTy_eta))) ?_; repeat' (first | (with_reducible exact True.intro) | (with_reducible refine Lf.mk ?_ ?_) | (with_reducible intro hb))
  refine CalI ((And.intro @eSch_eta (And.intro @eTm_eta @eTy_eta))) (H) ?_
  refine Run ((And.intro @eSch_eta (And.intro @eTm_eta @eTy_eta))) ?_; repeat' (first | (with_reducible exact True.intro) | (with_reducible refine Lf.mk ?_ ?_) | (with_reducible intro hb))
  refine ⟨rfl, rfl, ?_⟩
  refine Run ((And.intro @eTm_eta @eTy_eta)) ?_; repeat' (first | (with_reducible exact True.intro) | (with_reducible refine Lf.mk ?_ ?_) | (with_reducible intro hb))
  refine Cal (@eTy_eta) (specTyOk_ok t ho hz) ?_
  refine Run ((And.intro @eTm_eta (And.intro @eTy_eta @gt))) ?_; repeat' (first | (with_reducible exact True.intro) | (with_reducible refine Lf.mk ?_ ?_) | (with_reducible intro hb))
theorem sType_c (s ctx : List Decl) (e : Tm) (t : Ty) (H : FnP Tryz.prog 90 [agT (eSch s), slT eDecl ctx, agT (eTm e)] (.tp [agT (eTy t), bT false])) : FnS Tryz.prog 67 [] [agT (eSch s), slT eDecl ctx, agT (eTm e)] [] (.tp [.ag [.im (.sc (.int .i64 0)), .nl, .nl], bT false]) := by
  refine FnS.go [0, 1, 2, 3, 5, 6, 7, 8, 9, 23] [] Tryz.func67 rfl (fun kt kz => ?_)
  have fcx := fc67A100
  simp only [Tryz.f67]
  refine Run ((And.intro @eSch_eta (And.intro @eTm_eta @eTy_eta))) ?_; repeat' (first | (with_reducible exact True.intro) | (with_reducible refine Lf.mk ?_ ?_) | (with_reducible intro hb))
  refine CalI ((And.intro @eSch_eta (And.intro @eTm_eta @eTy_eta))) (H) ?_
  refine Run ((And.intro @eSch_eta (And.intro @eTm_eta @eTy_eta))) ?_; repeat' (first | (with_reducible exact True.intro) | (with_reducible refine Lf.mk ?_ ?_) | (with_reducible intro hb))
  refine ⟨rfl, rfl, ?_⟩
  refine Run ((And.intro @eTm_eta @eTy_eta)) ?_; repeat' (first | (with_reducible exact True.intro) | (with_reducible refine Lf.mk ?_ ?_) | (with_reducible intro hb))

end Go.VC.T
/- What types terms have: the reference, forms that bind nothing. -/
namespace Go.VC.T
open Go Go.VC Go.Proofs Go.VC.F
set_option linter.unusedSimpArgs false
set_option linter.unusedVariables false
set_option linter.defProp false
set_option maxRecDepth 100000
set_option maxHeartbeats 2000000
def fc108A101 := (And.intro (And.intro (And.intro (And.intro (And.intro sz3 (And.intro ag3 zv3)) (And.intro un3 (And.intro sz4 ag4))) (And.intro (And.intro zv4 (And.intro un4 sz9)) (And.intro (And.intro ag9 zv9) (And.intro un9 sz25)))) (And.intro (And.intro (And.intro ag25 (And.intro zv25 sb25)) (And.intro un25 (And.intro el25 ap25))) (And.intro (And.intro sz41 (And.intro ag41 zv41)) (And.intro (And.intro sb41 un41) (And.intro el41 ap41))))) (And.intro (And.intro (And.intro (And.intro sz43 (And.intro ag43 zv43)) (And.intro fl43_0 (And.intro fl43_1 fl43_2))) (And.intro (And.intro pl43 (And.intro sz46 ag46)) (And.intro (And.intro zv46 fl46_0) (And.intro fl46_1 fl46_2)))) (And.intro (And.intro (And.intro fl46_3 (And.intro fl46_4 fl46_5)) (And.intro pl46 (And.intro okf28 okf30))) (And.intro (And.intro okf46 (And.intro okf47 okf61)) (And.intro (And.intro okf68 okf123) (And.intro okf124 sz44))))))
theorem sf4_of (e : Tm) (ts : List Ty) (k : e.kind = 4) (t' : Ty) (b : Bool) (H : FnP Tryz.prog 124 [sT e.name, slT eTy ts] (.tp [agT (eTy t'), bT b])) : FnS Tryz.prog 108 [] [agT (eTm e), slT eTy ts] [] (.tp [agT (eTy t'), bT b]) := by
  refine FnS.go [0, 1, 2, 4, 5, 6, 7, 8, 9, 11, 12, 23, 29, 42, 48, 67, 86, 104, 112, 120] [] Tryz.func108 rfl (fun kt kz => ?_)
  have fcx := fc108A101
  simp only [Tryz.f108]
  refine Run ((And.intro @eTm_eta (And.intro @eTy_eta @k))) ?_; repeat' (first | (with_reducible exact True.intro) | (with_reducible refine Lf.mk ?_ ?_) | (with_reducible intro hb))
  refine CalI ((And.intro @eTm_eta @eTy_eta)) (H) ?_
  refine Run ((And.intro @eTm_eta @eTy_eta)) ?_; repeat' (first | (with_reducible exact True.intro) | (with_reducible refine Lf.mk ?_ ?_) | (with_reducible intro hb))
  refine ⟨rfl, rfl, ?_⟩
  refine Run ((And.intro @eTm_eta @eTy_eta)) ?_; repeat' (first | (with_reducible exact True.intro) | (with_reducible refine Lf.mk ?_ ?_) | (with_reducible intro hb))
theorem sf5_of (e : Tm) (hl : e.labels.length ≤ 2^20) (ts : List Ty) (ho : okLs (2^20) okTy ts) (k : e.kind = 5) : FnS Tryz.prog 108 [] [agT (eTm e), slT eTy ts] [] (.tp [agT (eTy (tRec e.labels ts)), bT true]) := by
  refine FnS.go [0, 1, 2, 4, 5, 6, 7, 8, 9, 11, 12, 23, 29, 42, 48, 67, 86, 104, 112, 120] [] Tryz.func108 rfl (fun kt kz => ?_)
  have fcx := fc108A101
  simp only [Tryz.f108]
  have hh : FnP Tryz.prog 47 [slT eS e.labels, slT eTy ts] (agT (eTy (tRec e.labels ts))) := l3Rec_t e.labels hl ts ho
  refine Run ((And.intro @eTm_eta (And.intro @eTy_eta @k))) ?_; repeat' (first | (with_reducible exact True.intro) | (with_reducible refine Lf.mk ?_ ?_) | (with_reducible intro hb))
  refine CalI ((And.intro @eTm_eta @eTy_eta)) (hh) ?_
  refine Run ((And.intro @eTm_eta @eTy_eta)) ?_; repeat' (first | (with_reducible exact True.intro) | (with_reducible refine Lf.mk ?_ ?_) | (with_reducible intro hb))
theorem sf8_of (e : Tm) (ts : List Ty) (k : e.kind = 8) (h0 : 0 < ts.length) (ho : okTy (2^20) ts[0]) : FnS Tryz.prog 108 [] [agT (eTm e), slT eTy ts] [] (.tp [agT (eTy (tBag ts[0])), bT true]) := by
  refine FnS.go [0, 1, 2, 4, 5, 6, 7, 8, 9, 11, 12, 23, 29, 42, 48, 67, 86, 104, 112, 120] [] Tryz.func108 rfl (fun kt kz => ?_)
  have fcx := fc108A101
  simp only [Tryz.f108]
  refine Run ((And.intro (And.intro @eTm_eta @eTy_eta) (And.intro @k @h0))) ?_; repeat' (first | (with_reducible exact True.intro) | (with_reducible refine Lf.mk ?_ ?_) | (with_reducible intro hb))
  refine CalI ((And.intro @eTm_eta @eTy_eta)) (sBag_t ts[0] ho) ?_
  refine Run ((And.intro @eTm_eta @eTy_eta)) ?_; repeat' (first | (with_reducible exact True.intro) | (with_reducible refine Lf.mk ?_ ?_) | (with_reducible intro hb))

end Go.VC.T
/- What types terms have: the reference, forms that compare, that ask. -/
namespace Go.VC.T
open Go Go.VC Go.Proofs Go.VC.F
set_option linter.unusedSimpArgs false
set_option linter.unusedVariables false
set_option linter.defProp false
set_option maxRecDepth 100000
set_option maxHeartbeats 2000000
def fc108A102 := (And.intro (And.intro (And.intro (And.intro (And.intro sz3 (And.intro ag3 zv3)) (And.intro un3 (And.intro sz4 ag4))) (And.intro (And.intro zv4 (And.intro un4 sz9)) (And.intro (And.intro ag9 zv9) (And.intro un9 sz25)))) (And.intro (And.intro (And.intro ag25 (And.intro zv25 sb25)) (And.intro un25 (And.intro el25 ap25))) (And.intro (And.intro sz41 (And.intro ag41 zv41)) (And.intro (And.intro sb41 un41) (And.intro el41 ap41))))) (And.intro (And.intro (And.intro (And.intro sz43 (And.intro ag43 zv43)) (And.intro fl43_0 (And.intro fl43_1 fl43_2))) (And.intro (And.intro pl43 (And.intro sz46 ag46)) (And.intro (And.intro zv46 fl46_0) (And.intro fl46_1 fl46_2)))) (And.intro (And.intro (And.intro fl46_3 (And.intro fl46_4 fl46_5)) (And.intro pl46 (And.intro okf28 okf30))) (And.intro (And.intro okf46 (And.intro okf47 okf61)) (And.intro (And.intro okf68 okf123) (And.intro okf124 sz44))))))
theorem sf9_of (e : Tm) (ts : List Ty) (ho : ∀ t ∈ ts, okTy (2^20) t) (k : e.kind = 9) (h0 : 0 < ts.length) (h1 : 1 < ts.length) (b : Bool) (hb : b = decide (ts[0].kind = 4 ∧ ts[0] = ts[1])) : FnS Tryz.prog 108 [] [agT (eTm e), slT eTy ts] [] (.tp [agT (eTy ts[0]), bT b]) := by
  refine FnS.go [0, 1, 2, 4, 5, 6, 7, 8, 9, 11, 12, 23, 29, 42, 48, 67, 86, 104, 112, 120] [] Tryz.func108 rfl (fun kt kz => ?_)
  have fcx := fc108A102
  simp only [Tryz.f108]
  have dq : Dq [0, 1, 2, 3, 4, 5, 6, 7, 8, 9, 10, 11, 12, 13, 14, 15, 16] [17, 18] 40 [[16], []] := ⟨⟩
  by_cases c : ts[0].kind = 4
  · have gc := eq_true c
    have e1 : decide (ts[0] = ts[1]) = b := by rw [hb]; exact decide_eq_decide.2 ⟨fun h => ⟨c, h⟩, fun h => h.2⟩
    refine RunX ((And.intro (And.intro @eTm_eta (And.intro @eTy_eta @k)) (And.intro @h0 (And.intro @h1 @gc)))) ?_; repeat' (first | (with_reducible exact True.intro) | (with_reducible refine Lf.mk ?_ ?_) | (with_reducible intro hb))
    refine Cal ((And.intro @eTm_eta (And.intro @eTy_eta @gc))) (specEqTy_ok ts[0] ts[1] (ho _ (List.getElem_mem h0)) (ho _ (List.getElem_mem h1))) ?_
    refine RunX ((And.intro (And.intro @eTm_eta @eTy_eta) (And.intro @e1 @gc))) ?_; repeat' (first | (with_reducible exact True.intro) | (with_reducible refine Lf.mk ?_ ?_) | (with_reducible intro hb))
  · have gc := eq_false c
    have e1 : b = false := by rw [hb]; exact decide_eq_false fun h => c h.1
    refine RunX ((And.intro (And.intro @eTm_eta (And.intro @eTy_eta @k)) (And.intro (And.intro @h0 @h1) (And.intro @gc @e1)))) ?_; repeat' (first | (with_reducible exact True.intro) | (with_reducible refine Lf.mk ?_ ?_) | (with_reducible intro hb))
    refine ⟨rfl, ?_⟩
    refine RunX ((And.intro @eTm_eta (And.intro @eTy_eta @e1))) ?_; repeat' (first | (with_reducible exact True.intro) | (with_reducible refine Lf.mk ?_ ?_) | (with_reducible intro hb))
theorem sf11_of (e : Tm) (ts : List Ty) (ho : ∀ t ∈ ts, okTy (2^20) t) (k : e.kind = 11) (h0 : 0 < ts.length) (h1 : 1 < ts.length) (h2 : 2 < ts.length) (b : Bool) (hb : b = decide (ts[0].kind = 2 ∧ ts[1] = ts[2])) : FnS Tryz.prog 108 [] [agT (eTm e), slT eTy ts] [] (.tp [agT (eTy ts[1]), bT b]) := by
  refine FnS.go [0, 1, 2, 4, 5, 6, 7, 8, 9, 11, 12, 23, 29, 42, 48, 67, 86, 104, 112, 120] [] Tryz.func108 rfl (fun kt kz => ?_)
  have fcx := fc108A102
  simp only [Tryz.f108]
  have dq : Dq [0, 1, 2, 3, 4, 5, 6, 7, 8, 9, 10, 11, 12, 13, 14, 15, 16] [17, 18] 40 [[16], []] := ⟨⟩
  by_cases c : ts[0].kind = 2
  · have gc := eq_true c
    have e1 : decide (ts[1] = ts[2]) = b := by rw [hb]; exact decide_eq_decide.2 ⟨fun h => ⟨c, h⟩, fun h => h.2⟩
    refine RunX ((And.intro (And.intro @eTm_eta (And.intro @eTy_eta @k)) (And.intro (And.intro @h0 @h1) (And.intro @h2 @gc)))) ?_; repeat' (first | (with_reducible exact True.intro) | (with_reducible refine Lf.mk ?_ ?_) | (with_reducible intro hb))
    refine Cal ((And.intro @eTm_eta (And.intro @eTy_eta @gc))) (specEqTy_ok ts[1] ts[2] (ho _ (List.getElem_mem h1)) (ho _ (List.getElem_mem h2))) ?_
    refine RunX ((And.intro (And.intro @eTm_eta @eTy_eta) (And.intro @e1 @gc))) ?_; repeat' (first | (with_reducible exact True.intro) | (with_reducible refine Lf.mk ?_ ?_) | (with_reducible intro hb))
  · have gc := eq_false c
    have e1 : b = false := by rw [hb]; exact decide_eq_false fun h => c h.1
    refine RunX ((And.intro (And.intro (And.intro @eTm_eta @eTy_eta) (And.intro @k @h0)) (And.intro (And.intro @h1 @h2) (And.intro @gc @e1)))) ?_; repeat' (first | (with_reducible exact True.intro) | (with_reducible refine Lf.mk ?_ ?_) | (with_reducible intro hb))
    refine ⟨rfl, ?_⟩
    refine RunX ((And.intro @eTm_eta (And.intro @eTy_eta @e1))) ?_; repeat' (first | (with_reducible exact True.intro) | (with_reducible refine Lf.mk ?_ ?_) | (with_reducible intro hb))
theorem sf15_of (e : Tm) (ts : List Ty) (k : e.kind = 15) (h0 : 0 < ts.length) : FnS Tryz.prog 108 [] [agT (eTm e), slT eTy ts] [] (.tp [agT (eTy tBool), bT (decide (ts[0].kind = 4))]) := by
  refine FnS.go [0, 1, 2, 4, 5, 6, 7, 8, 9, 11, 12, 23, 29, 42, 48, 67, 86, 104, 112, 120] [] Tryz.func108 rfl (fun kt kz => ?_)
  have fcx := fc108A102
  simp only [Tryz.f108]
  have dq : Dq [0, 1, 2, 3, 4, 5] [6, 7] 20 [[1, 2, 3, 4, 5], []] := ⟨⟩
  refine RunX ((And.intro (And.intro @eTm_eta @eTy_eta) (And.intro @k @h0))) ?_; repeat' (first | (with_reducible exact True.intro) | (with_reducible refine Lf.mk ?_ ?_) | (with_reducible intro hb))
  refine CalI ((And.intro @eTm_eta @eTy_eta)) (sBool_t) ?_
  refine RunX ((And.intro @eTm_eta (And.intro @eTy_eta @h0))) ?_; repeat' (first | (with_reducible exact True.intro) | (with_reducible refine Lf.mk ?_ ?_) | (with_reducible intro hb))
theorem sf16_of (e : Tm) (ts : List Ty) (k : e.kind = 16) (h0 : 0 < ts.length) : FnS Tryz.prog 108 [] [agT (eTm e), slT eTy ts] [] (.tp [agT (eTy tInt), bT (decide (ts[0].kind = 4))]) := by
  refine FnS.go [0, 1, 2, 4, 5, 6, 7, 8, 9, 11, 12, 23, 29, 42, 48, 67, 86, 104, 112, 120] [] Tryz.func108 rfl (fun kt kz => ?_)
  have fcx := fc108A102
  simp only [Tryz.f108]
  have dq : Dq [0, 1, 2, 3, 4, 5] [6, 7] 20 [[1, 2, 3, 4, 5], []] := ⟨⟩
  refine RunX ((And.intro (And.intro @eTm_eta @eTy_eta) (And.intro @k @h0))) ?_; repeat' (first | (with_reducible exact True.intro) | (with_reducible refine Lf.mk ?_ ?_) | (with_reducible intro hb))
  refine CalI ((And.intro @eTm_eta @eTy_eta)) (sInt_t) ?_
  refine RunX ((And.intro @eTm_eta (And.intro @eTy_eta @h0))) ?_; repeat' (first | (with_reducible exact True.intro) | (with_reducible refine Lf.mk ?_ ?_) | (with_reducible intro hb))

end Go.VC.T
/- What types terms have: the reference, fields, applications, forms that bind. -/
namespace Go.VC.T
open Go Go.VC Go.Proofs Go.VC.F
set_option linter.unusedSimpArgs false
set_option linter.unusedVariables false
set_option linter.defProp false
set_option maxRecDepth 100000
set_option maxHeartbeats 2000000
def fc108A103 := (And.intro (And.intro (And.intro (And.intro (And.intro sz3 (And.intro ag3 zv3)) (And.intro un3 (And.intro sz4 ag4))) (And.intro (And.intro zv4 (And.intro un4 sz9)) (And.intro (And.intro ag9 zv9) (And.intro un9 sz25)))) (And.intro (And.intro (And.intro ag25 (And.intro zv25 sb25)) (And.intro un25 (And.intro el25 ap25))) (And.intro (And.intro sz41 (And.intro ag41 zv41)) (And.intro (And.intro sb41 un41) (And.intro el41 ap41))))) (And.intro (And.intro (And.intro (And.intro sz43 (And.intro ag43 zv43)) (And.intro fl43_0 (And.intro fl43_1 fl43_2))) (And.intro (And.intro pl43 (And.intro sz46 ag46)) (And.intro (And.intro zv46 fl46_0) (And.intro fl46_1 fl46_2)))) (And.intro (And.intro (And.intro fl46_3 (And.intro fl46_4 fl46_5)) (And.intro pl46 (And.intro okf28 okf30))) (And.intro (And.intro okf46 (And.intro okf47 okf61)) (And.intro (And.intro okf68 okf123) (And.intro okf124 sz44))))))
theorem sf6_of (e : Tm) (ts : List Ty) (k : e.kind = 6) (h0 : 0 < ts.length) (t' : Ty) (b : Bool) (H : FnP Tryz.prog 28 [agT (eTy ts[0]), sT e.name] (.tp [agT (eTy t'), bT b])) : FnS Tryz.prog 108 [] [agT (eTm e), slT eTy ts] [] (.tp [agT (eTy t'), bT b]) := by
  refine FnS.go [0, 1, 2, 4, 5, 6, 7, 8, 9, 11, 12, 23, 29, 42, 48, 67, 86, 104, 112, 120] [] Tryz.func108 rfl (fun kt kz => ?_)
  have fcx := fc108A103
  simp only [Tryz.f108]
  refine RunX ((And.intro (And.intro @eTm_eta @eTy_eta) (And.intro @k @h0))) ?_; repeat' (first | (with_reducible exact True.intro) | (with_reducible refine Lf.mk ?_ ?_) | (with_reducible intro hb))
  refine Sm.drawYK [0, 1, 2, 3, 4, 5, 6, 7, 8] 9 8 40 [(10, [], [8]), (11, [10], [])] mixed (by decide +kernel) (by simp only [get_cons, get_nil, ↓reduceIte, Nat.reduceMul, Nat.reduceEqDiff, Option.isSome_none, Option.isSome_some]) (by (simp only [List.getElem?_toArray, List.getElem?_cons_succ, List.getElem?_cons_zero]); exact rfl) (by (simp only [List.filterMap_cons, List.filterMap_nil, List.getElem?_toArray, List.getElem?_cons_succ, List.getElem?_cons_zero]); exact rfl) (by (simp only [List.filterMap_cons, List.filterMap_nil, List.getElem?_toArray, List.getElem?_cons_succ, List.getElem?_cons_zero]); exact rfl) rfl ?_; refine RunX ((And.intro (And.intro @eTm_eta @eTy_eta) (And.intro @k @h0))) ?_; repeat' (first | (with_reducible exact True.intro) | (with_reducible refine Lf.mk ?_ ?_) | (with_reducible intro hb))
  refine CalI ((And.intro @eTm_eta @eTy_eta)) (H) ?_
  refine RunX ((And.intro @eTm_eta @eTy_eta)) ?_; repeat' (first | (with_reducible exact True.intro) | (with_reducible refine Lf.mk ?_ ?_) | (with_reducible intro hb))
  refine ⟨rfl, rfl, ?_⟩
  refine RunX ((And.intro @eTm_eta @eTy_eta)) ?_; repeat' (first | (with_reducible exact True.intro) | (with_reducible refine Lf.mk ?_ ?_) | (with_reducible intro hb))
theorem sf14_a (e : Tm) (ts : List Ty) (ho : ∀ t ∈ ts, okTy (2^20) t) (k : e.kind = 14) (h0 : 0 < ts.length) (h1 : 1 < ts.length) (c : ts[0].kind = 5) (a0 : 0 < ts[0].args.length) (a1 : 1 < ts[0].args.length) (he : ts[0].args[0] = ts[1]) : FnS Tryz.prog 108 [] [agT (eTm e), slT eTy ts] [] (.tp [agT (eTy ts[0].args[1]), bT true]) := by
  refine FnS.go [0, 1, 2, 4, 5, 6, 7, 8, 9, 11, 12, 23, 29, 42, 48, 67, 86, 104, 112, 120] [] Tryz.func108 rfl (fun kt kz => ?_)
  have fcx := fc108A103
  simp only [Tryz.f108]
  have gc := eq_true c
  have ge := eq_true he
  have o0 := okTy_iff.1 (ho _ (List.getElem_mem h0))
  refine Run ((And.intro (And.intro (And.intro @eTm_eta @eTy_eta) (And.intro @k @h0)) (And.intro (And.intro @h1 @a0) (And.intro @a1 @gc)))) ?_; repeat' (first | (with_reducible exact True.intro) | (with_reducible refine Lf.mk ?_ ?_) | (with_reducible intro hb))
  refine Cal ((And.intro @eTm_eta (And.intro @eTy_eta @gc))) (specEqTy_ok ts[0].args[0] ts[1] (o0.2.2.2 _ (List.getElem_mem a0)) (ho _ (List.getElem_mem h1))) ?_
  refine Run ((And.intro (And.intro (And.intro @eTm_eta @eTy_eta) (And.intro @ge @gc)) (And.intro (And.intro @h0 @h1) (And.intro @a0 @a1)))) ?_; repeat' (first | (with_reducible exact True.intro) | (with_reducible refine Lf.mk ?_ ?_) | (with_reducible intro hb))
  refine CalI (@eTy_eta) (l3Copy_ok ts[0].args[1] (o0.2.2.2 _ (List.getElem_mem a1))) ?_
  refine Run (@eTy_eta) ?_; repeat' (first | (with_reducible exact True.intro) | (with_reducible refine Lf.mk ?_ ?_) | (with_reducible intro hb))
theorem sf14_b (e : Tm) (ts : List Ty) (ho : ∀ t ∈ ts, okTy (2^20) t) (k : e.kind = 14) (h0 : 0 < ts.length) (h1 : 1 < ts.length) (c : ts[0].kind = 5) (a0 : 0 < ts[0].args.length) (he : ¬ ts[0].args[0] = ts[1]) : FnS Tryz.prog 108 [] [agT (eTm e), slT eTy ts] [] (.tp [.ag [.im (.sc (.int .i64 0)), .nl, .nl], bT false]) := by
  refine FnS.go [0, 1, 2, 4, 5, 6, 7, 8, 9, 11, 12, 23, 29, 42, 48, 67, 86, 104, 112, 120] [] Tryz.func108 rfl (fun kt kz => ?_)
  have fcx := fc108A103
  simp only [Tryz.f108]
  have gc := eq_true c
  have ge := eq_false he
  have o0 := okTy_iff.1 (ho _ (List.getElem_mem h0))
  refine Run ((And.intro (And.intro @eTm_eta (And.intro @eTy_eta @k)) (And.intro (And.intro @h0 @h1) (And.intro @a0 @gc)))) ?_; repeat' (first | (with_reducible exact True.intro) | (with_reducible refine Lf.mk ?_ ?_) | (with_reducible intro hb))
  refine Cal ((And.intro @eTm_eta (And.intro @eTy_eta @gc))) (specEqTy_ok ts[0].args[0] ts[1] (o0.2.2.2 _ (List.getElem_mem a0)) (ho _ (List.getElem_mem h1))) ?_
  refine Run ((And.intro (And.intro @eTm_eta (And.intro @eTy_eta @ge)) (And.intro (And.intro @gc @h0) (And.intro @h1 @a0)))) ?_; repeat' (first | (with_reducible exact True.intro) | (with_reducible refine Lf.mk ?_ ?_) | (with_reducible intro hb))
theorem sf14_c (e : Tm) (ts : List Ty) (k : e.kind = 14) (h0 : 0 < ts.length) (c : ¬ ts[0].kind = 5) : FnS Tryz.prog 108 [] [agT (eTm e), slT eTy ts] [] (.tp [.ag [.im (.sc (.int .i64 0)), .nl, .nl], bT false]) := by
  refine FnS.go [0, 1, 2, 4, 5, 6, 7, 8, 9, 11, 12, 23, 29, 42, 48, 67, 86, 104, 112, 120] [] Tryz.func108 rfl (fun kt kz => ?_)
  have fcx := fc108A103
  simp only [Tryz.f108]
  have gc := eq_false c
  refine Run ((And.intro (And.intro @eTm_eta @eTy_eta) (And.intro @k (And.intro @h0 @gc)))) ?_; repeat' (first | (with_reducible exact True.intro) | (with_reducible refine Lf.mk ?_ ?_) | (with_reducible intro hb))

end Go.VC.T
/- What types terms have: the reference, forms that bind. -/
namespace Go.VC.T
open Go Go.VC Go.Proofs Go.VC.F
set_option linter.unusedSimpArgs false
set_option linter.unusedVariables false
set_option linter.defProp false
set_option maxRecDepth 100000
set_option maxHeartbeats 2000000
def fc106A104 := (And.intro (And.intro (And.intro (And.intro (And.intro sz3 (And.intro ag3 zv3)) (And.intro (And.intro un3 sz4) (And.intro ag4 zv4))) (And.intro (And.intro (And.intro un4 sz9) (And.intro ag9 zv9)) (And.intro (And.intro un9 sz39) (And.intro ag39 zv39)))) (And.intro (And.intro (And.intro fl39_0 (And.intro pl39 sz41)) (And.intro (And.intro ag41 zv41) (And.intro sb41 un41))) (And.intro (And.intro (And.intro el41 ap41) (And.intro sz43 ag43)) (And.intro (And.intro zv43 fl43_0) (And.intro fl43_1 fl43_2))))) (And.intro (And.intro (And.intro (And.intro pl43 (And.intro sz44 ag44)) (And.intro (And.intro zv44 sb44) (And.intro un44 el44))) (And.intro (And.intro (And.intro ap44 sz46) (And.intro ag46 zv46)) (And.intro (And.intro fl46_0 fl46_1) (And.intro fl46_2 fl46_3)))) (And.intro (And.intro (And.intro fl46_4 (And.intro fl46_5 pl46)) (And.intro (And.intro sz70 ag70) (And.intro zv70 sb70))) (And.intro (And.intro (And.intro un70 el70) (And.intro ap70 okf67)) (And.intro (And.intro okf120 okf121) (And.intro sz37 sz25))))))
theorem sb13_of (s ctx : List Decl) (hc : ctx.length ≤ 2^20) (e : Tm) (k : e.kind = 13) (h0 : 0 < e.args.length) (ho : okTy (2^20) e.ty) (t : Ty) (ht : okTy (2^20) t) (b : Bool) (H : FnP Tryz.prog 67 [agT (eSch s), slT eDecl (ctx ++ [⟨e.name, e.ty⟩]), agT (eTm e.args[0])] (.tp [agT (eTy t), bT b])) : FnS Tryz.prog 106 [] [agT (eSch s), slT eDecl ctx, agT (eTm e)] [] (.tp [agT (eTy (tFun e.ty t)), bT b]) := by
  refine FnS.go [0, 1, 2, 3, 5, 6, 7, 8, 9, 10, 11, 12, 13, 16, 53] [] Tryz.func106 rfl (fun kt kz => ?_)
  have fcx := fc106A104
  simp only [Tryz.f106]
  refine RunX ((And.intro (And.intro @eSch_eta @eTm_eta) (And.intro @eTy_eta (And.intro @k @h0)))) ?_; repeat' (first | (with_reducible exact True.intro) | (with_reducible refine Lf.mk ?_ ?_) | (with_reducible intro hb))
  refine Sm.drawYK [0, 1, 2, 3, 4, 5, 6, 7, 8, 9, 10, 11, 12, 13, 14] 15 8 40 [(16, [], [14]), (17, [16], [])] mixed (by decide +kernel) (by simp only [get_cons, get_nil, ↓reduceIte, Nat.reduceMul, Nat.reduceEqDiff, Option.isSome_none, Option.isSome_some]) (by (simp only [List.getElem?_toArray, List.getElem?_cons_succ, List.getElem?_cons_zero]); exact rfl) (by (simp only [List.filterMap_cons, List.filterMap_nil, List.getElem?_toArray, List.getElem?_cons_succ, List.getElem?_cons_zero]); exact rfl) (by (simp only [List.filterMap_cons, List.filterMap_nil, List.getElem?_toArray, List.getElem?_cons_succ, List.getElem?_cons_zero]); exact rfl) rfl ?_; refine RunX ((And.intro (And.intro @eSch_eta @eTm_eta) (And.intro @eTy_eta @h0))) ?_; repeat' (first | (with_reducible exact True.intro) | (with_reducible refine Lf.mk ?_ ?_) | (with_reducible intro hb))
  refine CalI ((And.intro @eSch_eta (And.intro @eTm_eta @eTy_eta))) (specWith_of ctx hc e.name e.ty) ?_
  refine RunX ((And.intro (And.intro @eSch_eta @eTm_eta) (And.intro @eTy_eta @h0))) ?_; repeat' (first | (with_reducible exact True.intro) | (with_reducible refine Lf.mk ?_ ?_) | (with_reducible intro hb))
  refine CalI ((And.intro @eSch_eta (And.intro @eTm_eta @eTy_eta))) (H) ?_
  refine RunX ((And.intro @eSch_eta (And.intro @eTm_eta @eTy_eta))) ?_; repeat' (first | (with_reducible exact True.intro) | (with_reducible refine Lf.mk ?_ ?_) | (with_reducible intro hb))
  refine ⟨rfl, rfl, ?_⟩
  refine RunX ((And.intro @eSch_eta (And.intro @eTm_eta @eTy_eta))) ?_; repeat' (first | (with_reducible exact True.intro) | (with_reducible refine Lf.mk ?_ ?_) | (with_reducible intro hb))
  refine CalI ((And.intro @eTm_eta @eTy_eta)) (sFun_t e.ty t ho ht) ?_
  refine RunX ((And.intro @eSch_eta (And.intro @eTm_eta @eTy_eta))) ?_; repeat' (first | (with_reducible exact True.intro) | (with_reducible refine Lf.mk ?_ ?_) | (with_reducible intro hb))
theorem sb10_a (s ctx : List Decl) (e : Tm) (k : e.kind = 10) (h0 : 0 < e.args.length) (t : Ty) (b : Bool) (hn : ¬ (b = true ∧ t.kind = 4)) (H : FnP Tryz.prog 67 [agT (eSch s), slT eDecl ctx, agT (eTm e.args[0])] (.tp [agT (eTy t), bT b])) : FnS Tryz.prog 106 [] [agT (eSch s), slT eDecl ctx, agT (eTm e)] [] (.tp [.ag [.im (.sc (.int .i64 0)), .nl, .nl], bT false]) := by
  refine FnS.go [0, 1, 2, 3, 5, 6, 7, 8, 9, 10, 11, 12, 13, 16, 53] [] Tryz.func106 rfl (fun kt kz => ?_)
  have fcx := fc106A104
  simp only [Tryz.f106]
  cases b with
  | false =>
    refine RunX ((And.intro (And.intro @eSch_eta @eTm_eta) (And.intro @eTy_eta (And.intro @k @h0)))) ?_; repeat' (first | (with_reducible exact True.intro) | (with_reducible refine Lf.mk ?_ ?_) | (with_reducible intro hb))
    refine Sm.drawYK [0, 1, 2, 3, 4, 5, 6, 7, 8, 9] 10 10 40 [(11, [], [9]), (12, [11], [])] mixed (by decide +kernel) (by simp only [get_cons, get_nil, ↓reduceIte, Nat.reduceMul, Nat.reduceEqDiff, Option.isSome_none, Option.isSome_some]) (by (simp only [List.getElem?_toArray, List.getElem?_cons_succ, List.getElem?_cons_zero]); exact rfl) (by (simp only [List.filterMap_cons, List.filterMap_nil, List.getElem?_toArray, List.getElem?_cons_succ, List.getElem?_cons_zero]); exact rfl) (by (simp only [List.filterMap_cons, List.filterMap_nil, List.getElem?_toArray, List.getElem?_cons_succ, List.getElem?_cons_zero]); exact rfl) rfl ?_; refine RunX ((And.intro (And.intro @eSch_eta @eTm_eta) (And.intro @eTy_eta @h0))) ?_; repeat' (first | (with_reducible exact True.intro) | (with_reducible refine Lf.mk ?_ ?_) | (with_reducible intro hb))
    refine CalI ((And.intro @eSch_eta (And.intro @eTm_eta @eTy_eta))) (H) ?_
    refine RunX ((And.intro @eSch_eta (And.intro @eTm_eta @eTy_eta))) ?_; repeat' (first | (with_reducible exact True.intro) | (with_reducible refine Lf.mk ?_ ?_) | (with_reducible intro hb))
    refine ⟨rfl, rfl, ?_⟩
    refine RunX ((And.intro @eSch_eta (And.intro @eTm_eta @eTy_eta))) ?_; repeat' (first | (with_reducible exact True.intro) | (with_reducible refine Lf.mk ?_ ?_) | (with_reducible intro hb))
  | true =>
    have hk := eq_false (fun h => hn ⟨rfl, h⟩)
    refine RunX ((And.intro (And.intro @eSch_eta @eTm_eta) (And.intro @eTy_eta (And.intro @k @h0)))) ?_; repeat' (first | (with_reducible exact True.intro) | (with_reducible refine Lf.mk ?_ ?_) | (with_reducible intro hb))
    refine Sm.drawYK [0, 1, 2, 3, 4, 5, 6, 7, 8, 9] 10 10 40 [(11, [], [9]), (12, [11], [])] mixed (by decide +kernel) (by simp only [get_cons, get_nil, ↓reduceIte, Nat.reduceMul, Nat.reduceEqDiff, Option.isSome_none, Option.isSome_some]) (by (simp only [List.getElem?_toArray, List.getElem?_cons_succ, List.getElem?_cons_zero]); exact rfl) (by (simp only [List.filterMap_cons, List.filterMap_nil, List.getElem?_toArray, List.getElem?_cons_succ, List.getElem?_cons_zero]); exact rfl) (by (simp only [List.filterMap_cons, List.filterMap_nil, List.getElem?_toArray, List.getElem?_cons_succ, List.getElem?_cons_zero]); exact rfl) rfl ?_; refine RunX ((And.intro (And.intro @eSch_eta @eTm_eta) (And.intro @eTy_eta @h0))) ?_; repeat' (first | (with_reducible exact True.intro) | (with_reducible refine Lf.mk ?_ ?_) | (with_reducible intro hb))
    refine CalI ((And.intro @eSch_eta (And.intro @eTm_eta @eTy_eta))) (H) ?_
    refine RunX ((And.intro @eSch_eta (And.intro @eTm_eta @eTy_eta))) ?_; repeat' (first | (with_reducible exact True.intro) | (with_reducible refine Lf.mk ?_ ?_) | (with_reducible intro hb))
    refine ⟨rfl, rfl, ?_⟩
    refine RunX ((And.intro (And.intro @eSch_eta @eTm_eta) (And.intro @eTy_eta @hk))) ?_; repeat' (first | (with_reducible exact True.intro) | (with_reducible refine Lf.mk ?_ ?_) | (with_reducible intro hb))
theorem sb10_b (s ctx : List Decl) (hc : ctx.length ≤ 2^20) (e : Tm) (k : e.kind = 10) (h0 : 0 < e.args.length) (h1 : 1 < e.args.length) (t u : Ty) (b : Bool) (hk : t.kind = 4) (ha : 0 < t.args.length) (H : FnP Tryz.prog 67 [agT (eSch s), slT eDecl ctx, agT (eTm e.args[0])] (.tp [agT (eTy t), bT true])) (H2 : FnP Tryz.prog 67 [agT (eSch s), slT eDecl (ctx ++ [⟨e.name, t.args[0]⟩]), agT (eTm e.args[1])] (.tp [agT (eTy u), bT b])) : FnS Tryz.prog 106 [] [agT (eSch s), slT eDecl ctx, agT (eTm e)] [] (.tp [agT (eTy u), bT (b && decide (u.kind = 4))]) := by
  refine FnS.go [0, 1, 2, 3, 5, 6, 7, 8, 9, 10, 11, 12, 13, 16, 53] [] Tryz.func106 rfl (fun kt kz => ?_)
  have fcx := fc106A104
  simp only [Tryz.f106]
  have gk := eq_true hk
  refine RunX ((And.intro (And.intro @eSch_eta @eTm_eta) (And.intro @eTy_eta (And.intro @k @h0)))) ?_; repeat' (first | (with_reducible exact True.intro) | (with_reducible refine Lf.mk ?_ ?_) | (with_reducible intro hb))
  refine Sm.drawYK [0, 1, 2, 3, 4, 5, 6, 7, 8, 9] 10 10 40 [(11, [], [9]), (12, [11], [])] mixed (by decide +kernel) (by simp only [get_cons, get_nil, ↓reduceIte, Nat.reduceMul, Nat.reduceEqDiff, Option.isSome_none, Option.isSome_some]) (by (simp only [List.getElem?_toArray, List.getElem?_cons_succ, List.getElem?_cons_zero]); exact rfl) (by (simp only [List.filterMap_cons, List.filterMap_nil, List.getElem?_toArray, List.getElem?_cons_succ, List.getElem?_cons_zero]); exact rfl) (by (simp only [List.filterMap_cons, List.filterMap_nil, List.getElem?_toArray, List.getElem?_cons_succ, List.getElem?_cons_zero]); exact rfl) rfl ?_; refine RunX ((And.intro (And.intro @eSch_eta @eTm_eta) (And.intro @eTy_eta @h0))) ?_; repeat' (first | (with_reducible exact True.intro) | (with_reducible refine Lf.mk ?_ ?_) | (with_reducible intro hb))
  refine CalI ((And.intro @eSch_eta (And.intro @eTm_eta @eTy_eta))) (H) ?_
  refine RunX ((And.intro @eSch_eta (And.intro @eTm_eta @eTy_eta))) ?_; repeat' (first | (with_reducible exact True.intro) | (with_reducible refine Lf.mk ?_ ?_) | (with_reducible intro hb))
  refine ⟨rfl, rfl, ?_⟩
  refine RunX ((And.intro (And.intro @eSch_eta @eTm_eta) (And.intro @eTy_eta @gk))) ?_; repeat' (first | (with_reducible exact True.intro) | (with_reducible refine Lf.mk ?_ ?_) | (with_reducible intro hb))
  refine Sm.drawYK [0, 1, 2, 3, 4, 5, 6, 7, 8, 9, 10, 11, 12, 13, 14, 15, 16] 17 12 40 [(18, [], [16]), (19, [18], [])] mixed (by decide +kernel) (by simp only [get_cons, get_nil, ↓reduceIte, Nat.reduceMul, Nat.reduceEqDiff, Option.isSome_none, Option.isSome_some]) (by (simp only [List.getElem?_toArray, List.getElem?_cons_succ, List.getElem?_cons_zero]); exact rfl) (by (simp only [List.filterMap_cons, List.filterMap_nil, List.getElem?_toArray, List.getElem?_cons_succ, List.getElem?_cons_zero]); exact rfl) (by (simp only [List.filterMap_cons, List.filterMap_nil, List.getElem?_toArray, List.getElem?_cons_succ, List.getElem?_cons_zero]); exact rfl) rfl ?_; refine RunX ((And.intro (And.intro @eSch_eta (And.intro @eTm_eta @eTy_eta)) (And.intro @h0 (And.intro @h1 @ha)))) ?_; repeat' (first | (with_reducible exact True.intro) | (with_reducible refine Lf.mk ?_ ?_) | (with_reducible intro hb))
  refine CalI ((And.intro @eSch_eta (And.intro @eTm_eta @eTy_eta))) (specWith_of ctx hc e.name t.args[0]) ?_
  refine RunX ((And.intro (And.intro @eSch_eta @eTm_eta) (And.intro @eTy_eta @h1))) ?_; repeat' (first | (with_reducible exact True.intro) | (with_reducible refine Lf.mk ?_ ?_) | (with_reducible intro hb))
  refine CalI ((And.intro @eSch_eta (And.intro @eTm_eta @eTy_eta))) (H2) ?_
  refine RunX ((And.intro @eSch_eta (And.intro @eTm_eta @eTy_eta))) ?_; repeat' (first | (with_reducible exact True.intro) | (with_reducible refine Lf.mk ?_ ?_) | (with_reducible intro hb))
  refine ⟨rfl, rfl, ?_⟩
  have dq : Dq [0, 1, 2, 3, 4, 5, 6] [7, 8] 40 [[3, 4, 5, 6], []] := ⟨⟩
  cases b with
  | false =>
    refine RunX ((And.intro @eSch_eta (And.intro @eTm_eta @eTy_eta))) ?_; repeat' (first | (with_reducible exact True.intro) | (with_reducible refine Lf.mk ?_ ?_) | (with_reducible intro hb))
    refine ⟨rfl, ?_⟩
    refine RunX ((And.intro @eSch_eta (And.intro @eTm_eta @eTy_eta))) ?_; repeat' (first | (with_reducible exact True.intro) | (with_reducible refine Lf.mk ?_ ?_) | (with_reducible intro hb))
  | true =>
    refine RunX ((And.intro @eSch_eta (And.intro @eTm_eta @eTy_eta))) ?_; repeat' (first | (with_reducible exact True.intro) | (with_reducible refine Lf.mk ?_ ?_) | (with_reducible intro hb))

end Go.VC.T
/- What types terms have: the reference, the cases. -/
namespace Go.VC.T
open Go Go.VC Go.Proofs Go.VC.F
set_option linter.unusedSimpArgs false
set_option linter.unusedVariables false
set_option linter.defProp false
set_option maxRecDepth 100000
set_option maxHeartbeats 2000000
def fc90A105 := (And.intro (And.intro (And.intro (And.intro (And.intro sz3 (And.intro ag3 zv3)) (And.intro (And.intro un3 sz4) (And.intro ag4 zv4))) (And.intro (And.intro un4 (And.intro sz39 ag39)) (And.intro (And.intro zv39 fl39_0) (And.intro pl39 sz41)))) (And.intro (And.intro (And.intro ag41 (And.intro zv41 sb41)) (And.intro (And.intro un41 el41) (And.intro ap41 sz43))) (And.intro (And.intro (And.intro ag43 zv43) (And.intro fl43_0 fl43_1)) (And.intro (And.intro fl43_2 pl43) (And.intro sz44 ag44))))) (And.intro (And.intro (And.intro (And.intro zv44 (And.intro sb44 un44)) (And.intro (And.intro el44 ap44) (And.intro sz46 ag46))) (And.intro (And.intro zv46 (And.intro fl46_0 fl46_1)) (And.intro (And.intro fl46_2 fl46_3) (And.intro fl46_4 fl46_5)))) (And.intro (And.intro (And.intro pl46 (And.intro sz70 ag70)) (And.intro (And.intro zv70 sb70) (And.intro un70 el70))) (And.intro (And.intro (And.intro ap70 okf67) (And.intro okf106 okf107)) (And.intro (And.intro okf108 sz37) (And.intro sz25 sz9))))))
theorem some_a (s ctx : List Decl) (e : Tm) (k : e.kind = 13 ∨ e.kind = 10) (t : Ty) (b : Bool) (H : FnP Tryz.prog 106 [agT (eSch s), slT eDecl ctx, agT (eTm e)] (.tp [agT (eTy t), bT b])) : FnS Tryz.prog 90 [] [agT (eSch s), slT eDecl ctx, agT (eTm e)] [] (.tp [agT (eTy t), bT b]) := by
  refine FnS.go [0, 1, 2, 3, 5, 6, 7, 8, 9, 10, 11, 12, 13, 14, 15, 16, 17, 25, 38, 53, 68] [] Tryz.func90 rfl (fun kt kz => ?_)
  have fcx := fc90A105
  simp only [Tryz.f90]
  rcases k with k | k
  · have g := eq_true k
    refine RunX ((And.intro (And.intro @eSch_eta @eTm_eta) (And.intro @eTy_eta @g))) ?_; repeat' (first | (with_reducible exact True.intro) | (with_reducible refine Lf.mk ?_ ?_) | (with_reducible intro hb))
    refine CalI ((And.intro (And.intro @eSch_eta @eTm_eta) (And.intro @eTy_eta @g))) (H) ?_
    refine RunX ((And.intro (And.intro @eSch_eta @eTm_eta) (And.intro @eTy_eta @g))) ?_; repeat' (first | (with_reducible exact True.intro) | (with_reducible refine Lf.mk ?_ ?_) | (with_reducible intro hb))
    refine ⟨rfl, rfl, ?_⟩
    refine RunX ((And.intro (And.intro @eSch_eta @eTm_eta) (And.intro @eTy_eta @g))) ?_; repeat' (first | (with_reducible exact True.intro) | (with_reducible refine Lf.mk ?_ ?_) | (with_reducible intro hb))
  · have g := eq_true k
    have g2 : (e.kind = 13) = False := eq_false (by omega)
    refine RunX ((And.intro (And.intro @eSch_eta @eTm_eta) (And.intro @eTy_eta (And.intro @g @g2)))) ?_; repeat' (first | (with_reducible exact True.intro) | (with_reducible refine Lf.mk ?_ ?_) | (with_reducible intro hb))
    refine CalI ((And.intro (And.intro @eSch_eta @eTm_eta) (And.intro @eTy_eta (And.intro @g @g2)))) (H) ?_
    refine RunX ((And.intro (And.intro @eSch_eta @eTm_eta) (And.intro @eTy_eta (And.intro @g @g2)))) ?_; repeat' (first | (with_reducible exact True.intro) | (with_reducible refine Lf.mk ?_ ?_) | (with_reducible intro hb))
    refine ⟨rfl, rfl, ?_⟩
    refine RunX ((And.intro (And.intro @eSch_eta @eTm_eta) (And.intro @eTy_eta (And.intro @g @g2)))) ?_; repeat' (first | (with_reducible exact True.intro) | (with_reducible refine Lf.mk ?_ ?_) | (with_reducible intro hb))
theorem some_b (s ctx : List Decl) (e : Tm) (k1 : ¬ e.kind = 13) (k2 : ¬ e.kind = 10) (k0 : e.args.length = 0) (t : Ty) (b : Bool) (H : FnP Tryz.prog 107 [agT (eSch s), slT eDecl ctx, agT (eTm e)] (.tp [agT (eTy t), bT b])) : FnS Tryz.prog 90 [] [agT (eSch s), slT eDecl ctx, agT (eTm e)] [] (.tp [agT (eTy t), bT b]) := by
  refine FnS.go [0, 1, 2, 3, 5, 6, 7, 8, 9, 10, 11, 12, 13, 14, 15, 16, 17, 25, 38, 53, 68] [] Tryz.func90 rfl (fun kt kz => ?_)
  have fcx := fc90A105
  simp only [Tryz.f90]
  have g1 := eq_false k1
  have g2 := eq_false k2
  have g0 : ((e.args.length : Int) = 0) = True := eq_true (by omega)
  refine RunX ((And.intro (And.intro @eSch_eta (And.intro @eTm_eta @eTy_eta)) (And.intro @g1 (And.intro @g2 @g0)))) ?_; repeat' (first | (with_reducible exact True.intro) | (with_reducible refine Lf.mk ?_ ?_) | (with_reducible intro hb))
  refine CalI ((And.intro (And.intro @eSch_eta (And.intro @eTm_eta @eTy_eta)) (And.intro @g1 (And.intro @g2 @g0)))) (H) ?_
  refine RunX ((And.intro (And.intro @eSch_eta (And.intro @eTm_eta @eTy_eta)) (And.intro @g1 (And.intro @g2 @g0)))) ?_; repeat' (first | (with_reducible exact True.intro) | (with_reducible refine Lf.mk ?_ ?_) | (with_reducible intro hb))
  refine ⟨rfl, rfl, ?_⟩
  refine RunX ((And.intro (And.intro @eSch_eta (And.intro @eTm_eta @eTy_eta)) (And.intro @g1 (And.intro @g2 @g0)))) ?_; repeat' (first | (with_reducible exact True.intro) | (with_reducible refine Lf.mk ?_ ?_) | (with_reducible intro hb))
theorem some_c (s ctx : List Decl) (e : Tm) (he : okTm (2^20) e) (k1 : ¬ e.kind = 13) (k2 : ¬ e.kind = 10) (k0 : ¬ e.args.length = 0) (q : Tm → Option Ty) (H : ∀ u ∈ e.args, FnP Tryz.prog 67 [agT (eSch s), slT eDecl ctx, agT (eTm u)] (.tp [agT (eTy ((q u).getD ty0)), bT (q u).isSome])) (l : List Ty) (hl : allT (e.args.map q) = some l) (t : Ty) (b : Bool) (H2 : FnP Tryz.prog 108 [agT (eTm e), slT eTy l] (.tp [agT (eTy t), bT b])) : FnS Tryz.prog 90 [] [agT (eSch s), slT eDecl ctx, agT (eTm e)] [] (.tp [agT (eTy t), bT b]) := by
  refine FnS.go [0, 1, 2, 3, 5, 6, 7, 8, 9, 10, 11, 12, 13, 14, 15, 16, 17, 25, 38, 53, 68] [] Tryz.func90 rfl (fun kt kz => ?_)
  have fcx := fc90A105
  simp only [Tryz.f90]
  have ho := okTm_iff.1 he
  have hln := ho.2.2.2.2.2.1
  have g1 := eq_false k1
  have g2 := eq_false k2
  have g0 : ((e.args.length : Int) = 0) = False := eq_false (by omega)
  have fl0 : ([] : List Ty).flatMap eTy = [] := rfl
  refine Run ((And.intro (And.intro @eSch_eta (And.intro @eTm_eta @eTy_eta)) (And.intro @g1 (And.intro @g2 @g0)))) ?_; repeat' (first | (with_reducible exact True.intro) | (with_reducible refine Lf.mk ?_ ?_) | (with_reducible intro hb))
  refine Sm.share (96) (by simp -dsimp (maxSteps := 2000000) (disch := omega) only [vs, ↓Option.bind_some, ev1, ofV, scalarB, Kn, Kb, calleeOf, evLoad, ptr, evField, evFieldAddr, shift, ↓pt_at, ↓pt_at1, evExtract, evBin, evLen, evConv, cellsT, noS, Cell.has, Cell.hasN, Cell.anyN, toIV, toIV0, toIVs, ownC, srcM, Ob.own, Ob.esz, allSc, nilK, lenC, ownCell, isPtr, ptrNil, frzO, Cell.frz, Cell.keys, ↓reduceIte, reduceCtorEq, Nat.reduceEqDiff, Nat.reduceBEq, Nat.reduceBNe, Nat.reduceAdd, Nat.reduceMul, Nat.reduceSub, Nat.reduceLT, Nat.reduceLeDiff, Nat.reducePow, Int.reduceLT, Int.reduceLE, Int.reduceEq, Int.reduceNe, quietB, Nat.reduceMod, Int.reduceToNat, ne_eq, eq_self, exists_const, evBytes, byRow, byL, byStr_size, ifsz, ByteArray.size_append, Option.none_or, Option.some_or, evLook, keyD, fc90A105]) ?_; simp -dsimp (maxSteps := 2000000) (disch := omega) only [vs, ↓Option.bind_some, ev1, ofV, scalarB, Kn, Kb, calleeOf, evLoad, ptr, evField, evFieldAddr, shift, ↓pt_at, ↓pt_at1, evExtract, evBin, evLen, evConv, cellsT, noS, Cell.has, Cell.hasN, Cell.anyN, toIV, toIV0, toIVs, ownC, srcM, Ob.own, Ob.esz, allSc, nilK, lenC, ownCell, isPtr, ptrNil, frzO, Cell.frz, Cell.keys, ↓reduceIte, reduceCtorEq, Nat.reduceEqDiff, Nat.reduceBEq, Nat.reduceBNe, Nat.reduceAdd, Nat.reduceMul, Nat.reduceSub, Nat.reduceLT, Nat.reduceLeDiff, Nat.reducePow, Int.reduceLT, Int.reduceLE, Int.reduceEq, Int.reduceNe, quietB, Nat.reduceMod, Int.reduceToNat, ne_eq, eq_self, exists_const, evBytes, byRow, byL, byStr_size, ifsz, ByteArray.size_append, Option.none_or, Option.some_or, evLook, keyD, fc90A105, St.share]
  refine Trn (α := Nat × List Ty) [7, 12, 13, 14, 15, 49, 50, 51, 52, 53, 54, 55, 56, 57, 58, 59, 60, 61, 62, 63, 64, 65, 66, 67, 68, 69, 70, 71, 72, 73] (fun ⟨i, m⟩ => [(13, iT i), (12, .c (.os 96 m.length))]) (fun ⟨i, m⟩ => [(6, .box 39 ((eSch s).map .im)), (10, .box 46 ((eTm e).map .im)), (12, .box 43 [.im (.sc (.int .i64 0)), .nl, .nl]), (96, .vec 43 3 m.length (m.flatMap eTy) false)]) (fun ⟨i, m⟩ => i ≤ e.args.length ∧ m.length = i ∧ allT ((e.args.take i).map q) = some m) (fun ⟨i, m⟩ => e.args.length - i) ((0, [])) (⟨Nat.zero_le _, rfl, rfl⟩) ((And.intro (And.intro @eSch_eta @eTm_eta) (And.intro @eTy_eta @fl0))) ?_; intro lx hI; obtain ⟨i, m⟩ := lx; (try simp only [List.nil_append, List.cons_append] at hI ⊢)
  by_cases hlt : i < e.args.length
  · cases hu : q e.args[i] with
    | none =>
      rw [allT_no (List.mem_map.2 ⟨_, List.getElem_mem hlt, hu⟩)] at hl
      cases hl
    | some t2 =>
      have hH := H _ (List.getElem_mem hlt)
      rw [hu] at hH
      have hH : FnP Tryz.prog 67 [agT (eSch s), slT eDecl ctx, agT (eTm e.args[i])] (.tp [agT (eTy t2), bT true]) := hH
      have e1 : m.flatMap eTy ++ eTy t2 = (m ++ [t2]).flatMap eTy := by rw [List.flatMap_append, flat_one]
      rw [eTy_eta t2] at e1
      simp only [slI] at e1
      have e2 : m.length + 1 = (m ++ [t2]).length := by simp
      refine RunX ((And.intro (And.intro @eSch_eta @eTm_eta) (And.intro @eTy_eta @hlt))) ?_; repeat' (first | (with_reducible exact True.intro) | (with_reducible refine Lf.mk ?_ ?_) | (with_reducible intro hb))
      refine Sm.drawYK [0, 1, 2, 3, 4, 5, 6, 7, 8, 9, 10] 11 14 40 [(12, [], [10]), (13, [12], [])] mixed (by decide +kernel) (by simp only [get_cons, get_nil, ↓reduceIte, Nat.reduceMul, Nat.reduceEqDiff, Option.isSome_none, Option.isSome_some]) (by (simp only [List.getElem?_toArray, List.getElem?_cons_succ, List.getElem?_cons_zero]); exact rfl) (by (simp only [List.filterMap_cons, List.filterMap_nil, List.getElem?_toArray, List.getElem?_cons_succ, List.getElem?_cons_zero]); exact rfl) (by (simp only [List.filterMap_cons, List.filterMap_nil, List.getElem?_toArray, List.getElem?_cons_succ, List.getElem?_cons_zero]); exact rfl) rfl ?_; refine RunX ((And.intro (And.intro @eSch_eta @eTm_eta) (And.intro @eTy_eta @hlt))) ?_; repeat' (first | (with_reducible exact True.intro) | (with_reducible refine Lf.mk ?_ ?_) | (with_reducible intro hb))
      refine CalI ((And.intro @eSch_eta (And.intro @eTm_eta @eTy_eta))) (hH) ?_
      refine RunX ((And.intro (And.intro @eSch_eta (And.intro @eTm_eta @eTy_eta)) (And.intro @hlt (And.intro @e1 @e2)))) ?_; repeat' (first | (with_reducible exact True.intro) | (with_reducible refine Lf.mk ?_ ?_) | (with_reducible intro hb))
      refine ⟨rfl, rfl, ?_⟩
      refine RunX ((And.intro (And.intro @eSch_eta (And.intro @eTm_eta @eTy_eta)) (And.intro @hlt (And.intro @e1 @e2)))) ?_; repeat' (first | (with_reducible exact True.intro) | (with_reducible refine Lf.mk ?_ ?_) | (with_reducible intro hb))
      exact Nxt ((And.intro (And.intro @eSch_eta @eTm_eta) (And.intro @eTy_eta (And.intro @e1 @e2)))) ((i + 1, m ++ [t2])) (⟨by omega, by rw [← e2]; have := hI.2.1; omega, by rw [take_at hlt, List.map_append]; show allT (_ ++ [q e.args[i]]) = _; rw [hu]; exact allT_app hI.2.2⟩) (by first | omega | (simp; omega))
  · have hm : m = l := by
      have := hI.2.2
      rw [List.take_of_length_le (by omega), hl] at this
      exact (Option.some.inj this).symm
    subst hm
    refine Run ((And.intro (And.intro @eSch_eta @eTm_eta) (And.intro @eTy_eta @hlt))) ?_; repeat' (first | (with_reducible exact True.intro) | (with_reducible refine Lf.mk ?_ ?_) | (with_reducible intro hb))
    refine CallG.frz1 96 rfl ?_
    simp -dsimp (maxSteps := 2000000) (disch := omega) only [vs, ↓Option.bind_some, ev1, ofV, scalarB, Kn, Kb, calleeOf, evLoad, ptr, evField, evFieldAddr, shift, ↓pt_at, ↓pt_at1, evExtract, evBin, evLen, evConv, cellsT, noS, Cell.has, Cell.hasN, Cell.anyN, toIV, toIV0, toIVs, ownC, srcM, Ob.own, Ob.esz, allSc, nilK, lenC, ownCell, isPtr, ptrNil, frzO, Cell.frz, Cell.keys, ↓reduceIte, reduceCtorEq, Nat.reduceEqDiff, Nat.reduceBEq, Nat.reduceBNe, Nat.reduceAdd, Nat.reduceMul, Nat.reduceSub, Nat.reduceLT, Nat.reduceLeDiff, Nat.reducePow, Int.reduceLT, Int.reduceLE, Int.reduceEq, Int.reduceNe, quietB, Nat.reduceMod, Int.reduceToNat, ne_eq, eq_self, exists_const, evBytes, byRow, byL, byStr_size, ifsz, ByteArray.size_append, Option.none_or, Option.some_or, evLook, keyD, fc90A105, eSch_eta, eTm_eta, eTy_eta]
    refine CalI ((And.intro @eSch_eta (And.intro @eTm_eta @eTy_eta))) (H2) ?_
    refine Run ((And.intro @eSch_eta (And.intro @eTm_eta @eTy_eta))) ?_; repeat' (first | (with_reducible exact True.intro) | (with_reducible refine Lf.mk ?_ ?_) | (with_reducible intro hb))
    refine ⟨rfl, rfl, ?_⟩
    refine Run ((And.intro @eSch_eta (And.intro @eTm_eta @eTy_eta))) ?_; repeat' (first | (with_reducible exact True.intro) | (with_reducible refine Lf.mk ?_ ?_) | (with_reducible intro hb))
theorem some_d (s ctx : List Decl) (e : Tm) (he : okTm (2^20) e) (k1 : ¬ e.kind = 13) (k2 : ¬ e.kind = 10) (k0 : ¬ e.args.length = 0) (q : Tm → Option Ty) (H : ∀ u ∈ e.args, FnP Tryz.prog 67 [agT (eSch s), slT eDecl ctx, agT (eTm u)] (.tp [agT (eTy ((q u).getD ty0)), bT (q u).isSome])) (hl : allT (e.args.map q) = none) : FnS Tryz.prog 90 [] [agT (eSch s), slT eDecl ctx, agT (eTm e)] [] (.tp [.ag [.im (.sc (.int .i64 0)), .nl, .nl], bT false]) := by
  refine FnS.go [0, 1, 2, 3, 5, 6, 7, 8, 9, 10, 11, 12, 13, 14, 15, 16, 17, 25, 38, 53, 68] [] Tryz.func90 rfl (fun kt kz => ?_)
  have fcx := fc90A105
  simp only [Tryz.f90]
  have ho := okTm_iff.1 he
  have hln := ho.2.2.2.2.2.1
  have g1 := eq_false k1
  have g2 := eq_false k2
  have g0 : ((e.args.length : Int) = 0) = False := eq_false (by omega)
  have fl0 : ([] : List Ty).flatMap eTy = [] := rfl
  refine Run ((And.intro (And.intro @eSch_eta (And.intro @eTm_eta @eTy_eta)) (And.intro @g1 (And.intro @g2 @g0)))) ?_; repeat' (first | (with_reducible exact True.intro) | (with_reducible refine Lf.mk ?_ ?_) | (with_reducible intro hb))
  refine Sm.share (96) (by simp -dsimp (maxSteps := 2000000) (disch := omega) only [vs, ↓Option.bind_some, ev1, ofV, scalarB, Kn, Kb, calleeOf, evLoad, ptr, evField, evFieldAddr, shift, ↓pt_at, ↓pt_at1, evExtract, evBin, evLen, evConv, cellsT, noS, Cell.has, Cell.hasN, Cell.anyN, toIV, toIV0, toIVs, ownC, srcM, Ob.own, Ob.esz, allSc, nilK, lenC, ownCell, isPtr, ptrNil, frzO, Cell.frz, Cell.keys, ↓reduceIte, reduceCtorEq, Nat.reduceEqDiff, Nat.reduceBEq, Nat.reduceBNe, Nat.reduceAdd, Nat.reduceMul, Nat.reduceSub, Nat.reduceLT, Nat.reduceLeDiff, Nat.reducePow, Int.reduceLT, Int.reduceLE, Int.reduceEq, Int.reduceNe, quietB, Nat.reduceMod, Int.reduceToNat, ne_eq, eq_self, exists_const, evBytes, byRow, byL, byStr_size, ifsz, ByteArray.size_append, Option.none_or, Option.some_or, evLook, keyD, fc90A105]) ?_; simp -dsimp (maxSteps := 2000000) (disch := omega) only [vs, ↓Option.bind_some, ev1, ofV, scalarB, Kn, Kb, calleeOf, evLoad, ptr, evField, evFieldAddr, shift, ↓pt_at, ↓pt_at1, evExtract, evBin, evLen, evConv, cellsT, noS, Cell.has, Cell.hasN, Cell.anyN, toIV, toIV0, toIVs, ownC, srcM, Ob.own, Ob.esz, allSc, nilK, lenC, ownCell, isPtr, ptrNil, frzO, Cell.frz, Cell.keys, ↓reduceIte, reduceCtorEq, Nat.reduceEqDiff, Nat.reduceBEq, Nat.reduceBNe, Nat.reduceAdd, Nat.reduceMul, Nat.reduceSub, Nat.reduceLT, Nat.reduceLeDiff, Nat.reducePow, Int.reduceLT, Int.reduceLE, Int.reduceEq, Int.reduceNe, quietB, Nat.reduceMod, Int.reduceToNat, ne_eq, eq_self, exists_const, evBytes, byRow, byL, byStr_size, ifsz, ByteArray.size_append, Option.none_or, Option.some_or, evLook, keyD, fc90A105, St.share]
  refine Trn (α := Nat × List Ty) [7, 12, 13, 14, 15, 49, 50, 51, 52, 53, 54, 55, 56, 57, 58, 59, 60, 61, 62, 63, 64, 65, 66, 67, 68, 69, 70, 71, 72, 73] (fun ⟨i, m⟩ => [(13, iT i), (12, .c (.os 96 m.length))]) (fun ⟨i, m⟩ => [(6, .box 39 ((eSch s).map .im)), (10, .box 46 ((eTm e).map .im)), (12, .box 43 [.im (.sc (.int .i64 0)), .nl, .nl]), (96, .vec 43 3 m.length (m.flatMap eTy) false)]) (fun ⟨i, m⟩ => i ≤ e.args.length ∧ m.length = i ∧ allT ((e.args.take i).map q) = some m) (fun ⟨i, m⟩ => e.args.length - i) ((0, [])) (⟨Nat.zero_le _, rfl, rfl⟩) ((And.intro (And.intro @eSch_eta @eTm_eta) (And.intro @eTy_eta @fl0))) ?_; intro lx hI; obtain ⟨i, m⟩ := lx; (try simp only [List.nil_append, List.cons_append] at hI ⊢)
  by_cases hlt : i < e.args.length
  · cases hu : q e.args[i] with
    | none =>
      have hH := H _ (List.getElem_mem hlt)
      rw [hu] at hH
      have hH : FnP Tryz.prog 67 [agT (eSch s), slT eDecl ctx, agT (eTm e.args[i])] (.tp [agT (eTy ty0), bT false]) := hH
      refine RunX ((And.intro (And.intro @eSch_eta @eTm_eta) (And.intro @eTy_eta @hlt))) ?_; repeat' (first | (with_reducible exact True.intro) | (with_reducible refine Lf.mk ?_ ?_) | (with_reducible intro hb))
      refine Sm.drawYK [0, 1, 2, 3, 4, 5, 6, 7, 8, 9, 10] 11 14 40 [(12, [], [10]), (13, [12], [])] mixed (by decide +kernel) (by simp only [get_cons, get_nil, ↓reduceIte, Nat.reduceMul, Nat.reduceEqDiff, Option.isSome_none, Option.isSome_some]) (by (simp only [List.getElem?_toArray, List.getElem?_cons_succ, List.getElem?_cons_zero]); exact rfl) (by (simp only [List.filterMap_cons, List.filterMap_nil, List.getElem?_toArray, List.getElem?_cons_succ, List.getElem?_cons_zero]); exact rfl) (by (simp only [List.filterMap_cons, List.filterMap_nil, List.getElem?_toArray, List.getElem?_cons_succ, List.getElem?_cons_zero]); exact rfl) rfl ?_; refine RunX ((And.intro (And.intro @eSch_eta @eTm_eta) (And.intro @eTy_eta @hlt))) ?_; repeat' (first | (with_reducible exact True.intro) | (with_reducible refine Lf.mk ?_ ?_) | (with_reducible intro hb))
      refine CalI ((And.intro @eSch_eta (And.intro @eTm_eta @eTy_eta))) (hH) ?_
      refine RunX ((And.intro (And.intro @eSch_eta @eTm_eta) (And.intro @eTy_eta @hlt))) ?_; repeat' (first | (with_reducible exact True.intro) | (with_reducible refine Lf.mk ?_ ?_) | (with_reducible intro hb))
      refine ⟨rfl, rfl, ?_⟩
      refine RunX ((And.intro (And.intro @eSch_eta @eTm_eta) (And.intro @eTy_eta @hlt))) ?_; repeat' (first | (with_reducible exact True.intro) | (with_reducible refine Lf.mk ?_ ?_) | (with_reducible intro hb))
    | some t2 =>
      have hH := H _ (List.getElem_mem hlt)
      rw [hu] at hH
      have hH : FnP Tryz.prog 67 [agT (eSch s), slT eDecl ctx, agT (eTm e.args[i])] (.tp [agT (eTy t2), bT true]) := hH
      have e1 : m.flatMap eTy ++ eTy t2 = (m ++ [t2]).flatMap eTy := by rw [List.flatMap_append, flat_one]
      rw [eTy_eta t2] at e1
      simp only [slI] at e1
      have e2 : m.length + 1 = (m ++ [t2]).length := by simp
      refine RunX ((And.intro (And.intro @eSch_eta @eTm_eta) (And.intro @eTy_eta @hlt))) ?_; repeat' (first | (with_reducible exact True.intro) | (with_reducible refine Lf.mk ?_ ?_) | (with_reducible intro hb))
      refine Sm.drawYK [0, 1, 2, 3, 4, 5, 6, 7, 8, 9, 10] 11 14 40 [(12, [], [10]), (13, [12], [])] mixed (by decide +kernel) (by simp only [get_cons, get_nil, ↓reduceIte, Nat.reduceMul, Nat.reduceEqDiff, Option.isSome_none, Option.isSome_some]) (by (simp only [List.getElem?_toArray, List.getElem?_cons_succ, List.getElem?_cons_zero]); exact rfl) (by (simp only [List.filterMap_cons, List.filterMap_nil, List.getElem?_toArray, List.getElem?_cons_succ, List.getElem?_cons_zero]); exact rfl) (by (simp only [List.filterMap_cons, List.filterMap_nil, List.getElem?_toArray, List.getElem?_cons_succ, List.getElem?_cons_zero]); exact rfl) rfl ?_; refine RunX ((And.intro (And.intro @eSch_eta @eTm_eta) (And.intro @eTy_eta @hlt))) ?_; repeat' (first | (with_reducible exact True.intro) | (with_reducible refine Lf.mk ?_ ?_) | (with_reducible intro hb))
      refine CalI ((And.intro @eSch_eta (And.intro @eTm_eta @eTy_eta))) (hH) ?_
      refine RunX ((And.intro (And.intro @eSch_eta (And.intro @eTm_eta @eTy_eta)) (And.intro @hlt (And.intro @e1 @e2)))) ?_; repeat' (first | (with_reducible exact True.intro) | (with_reducible refine Lf.mk ?_ ?_) | (with_reducible intro hb))
      refine ⟨rfl, rfl, ?_⟩
      refine RunX ((And.intro (And.intro @eSch_eta (And.intro @eTm_eta @eTy_eta)) (And.intro @hlt (And.intro @e1 @e2)))) ?_; repeat' (first | (with_reducible exact True.intro) | (with_reducible refine Lf.mk ?_ ?_) | (with_reducible intro hb))
      exact Nxt ((And.intro (And.intro @eSch_eta @eTm_eta) (And.intro @eTy_eta (And.intro @e1 @e2)))) ((i + 1, m ++ [t2])) (⟨by omega, by rw [← e2]; have := hI.2.1; omega, by rw [take_at hlt, List.map_append]; show allT (_ ++ [q e.args[i]]) = _; rw [hu]; exact allT_app hI.2.2⟩) (by first | omega | (simp; omega))
  · have := hI.2.2
    rw [List.take_of_length_le (by omega), hl] at this
    cases this

end Go.VC.T
/- What types terms have: the program's function, by recursion. -/
namespace Go.VC
open Go
theorem len1 {α : Type} {l : List α} (h : l.length = 1) : ∃ a, l = [a] := List.length_eq_one_iff.1 h
theorem len2 {α : Type} {l : List α} (h : l.length = 2) : ∃ a b, l = [a, b] := by
  match l, h with
  | [a, b], _ => exact ⟨a, b, rfl⟩
theorem len3 {α : Type} {l : List α} (h : l.length = 3) : ∃ a b c, l = [a, b, c] := by
  match l, h with
  | [a, b, c], _ => exact ⟨a, b, c, rfl⟩
/-- The same type whatever stands behind the term. -/
def TyResF (P : Program) (g : FuncId) (A : List IV → List TV) (o : Option Ty) : Prop := ∃ t' : Ty, (∀ r, FnP P g (A r) (.tp [agT (eTy t'), bT o.isSome])) ∧ ∀ t, o = some t → t' = t
theorem TyResF.mk {P : Program} {g : FuncId} {A : List IV → List TV} {o : Option Ty} {t' : Ty} {b : Bool} (h : ∀ r, FnP P g (A r) (.tp [agT (eTy t'), bT b])) (hb : b = o.isSome) (ht : ∀ t, o = some t → t' = t) : TyResF P g A o := ⟨t', hb ▸ h, ht⟩
theorem TyResF.to {P : Program} {g : FuncId} {A : List IV → List TV} {o : Option Ty} (h : TyResF P g A o) (r : List IV) : TyRes P g (A r) o := by
  obtain ⟨t', h, ht⟩ := h
  exact ⟨t', h r, ht⟩
theorem TyResF.yes {P : Program} {g : FuncId} {A : List IV → List TV} {t : Ty} (h : TyResF P g A (some t)) : ∀ r, FnP P g (A r) (.tp [agT (eTy t), bT true]) := by
  obtain ⟨t', h, ht⟩ := h
  obtain rfl := ht t rfl
  exact h
theorem TyResF.no {P : Program} {g : FuncId} {A : List IV → List TV} (h : TyResF P g A none) : ∃ t' : Ty, ∀ r, FnP P g (A r) (.tp [agT (eTy t'), bT false]) := by
  obtain ⟨t', h, _⟩ := h
  exact ⟨t', h⟩
end Go.VC
namespace Go.VC.T
open Go Go.VC Go.Proofs Go.VC.F
set_option linter.unusedSimpArgs false
set_option linter.unusedVariables false
set_option maxRecDepth 100000
set_option maxHeartbeats 2000000
/-- Forms that bind nothing. -/
theorem plain_res (Y : List IV) (e : Tm) (hN : NdOk e) (hk : ¬ e.kind = 1 ∧ ¬ e.kind = 2 ∧ ¬ e.kind = 3 ∧ ¬ e.kind = 12 ∧ ¬ e.kind = 7 ∧ ¬ e.kind = 10 ∧ ¬ e.kind = 13) (ho : okTm (2^20) e) (l : List Ty) (hl : l.length = e.args.length) (hT : ∀ t ∈ l, TyOk t) :
    TyResF Tryz.prog 119 (fun r => [.c (.im (.pt Y)), .c (.im (.pt (eTm e ++ r))), slT eTy l]) (plainT e l) ∧ ∀ t, plainT e l = some t → okTy (2^20) t ∧ zTy t ≤ 2^40 := by
  obtain ⟨k1, k2, k3, k12, k7, k10, k13⟩ := hk
  have hln := (okTm_iff.1 ho).2.2.2.2.2.1
  have hlo : ∀ t ∈ l, okTy (2^20) t := fun t h => (hT t h).ok
  rcases nd_kind hN with k | k | k | k | k | k | k | k | k | k | k | k | k | k | k | k
  · exact absurd k k1
  · exact absurd k k2
  · exact absurd k k3
  · exact absurd k k7
  · exact absurd k k12
  · -- an operation
    have e1 : plainT e l = opT e.name l := by unfold plainT; rw [if_pos k]
    rw [e1]
    obtain ⟨t', h, ht⟩ := implOp_ok e.name (nd_op hN k) l (by omega)
    refine ⟨TyResF.mk (fun r => plain4_of Y e r l k t' _ h) rfl ht, fun t h => ?_⟩
    rw [opT_eq] at h
    generalize (!l.any fun a => !decide (a.kind = if e.name = opAnd ∨ e.name = opOr ∨ e.name = opNot then 2 else 1)) = c at h
    cases c with
    | false => cases h
    | true =>
      obtain rfl := Option.some.inj h
      split
      · exact bnd_int
      · exact bnd_bool
  · have e1 : plainT e l = some (tRec e.labels l) := by unfold plainT; rw [if_neg (by omega), if_pos k]
    rw [e1]
    have hr := nd_rec hN k
    exact ⟨TyResF.mk (fun r => plain5_of Y e r l k) rfl fun t h => Option.some.inj h, fun t h => by obtain rfl := Option.some.inj h; exact bnd_rec hr.1 (by omega) hT⟩
  · obtain ⟨a, rfl⟩ := len1 (hl.trans (nd_one hN (by omega)))
    have e1 : plainT e [a] = fieldT a e.name := by unfold plainT; simp only [k]; rfl
    rw [e1]
    have ha := hT a List.mem_cons_self
    have hf := implField_ok a ha.ok (by have := ha.z; omega) e.name
    refine ⟨TyResF.mk (fun r => plain6_of Y e r [a] k (by simp) _ _ hf) rfl fun t h => by rw [h]; rfl, fun t h => ?_⟩
    by_cases hc : TyOk a ∧ a.kind = 3 ∧ 0 ≤ idxI (fun x => decide (x = e.name)) a.labels
    · obtain ⟨j, _, hj, h2⟩ := fieldT_at hc
      rw [h2] at h
      obtain rfl := Option.some.inj h
      exact bnd_arg ha (List.getElem_mem hj)
    · rw [fieldT_no hc] at h; cases h
  · obtain ⟨a, rfl⟩ := len1 (hl.trans (nd_one hN (by omega)))
    have e1 : plainT e [a] = some (tBag a) := by unfold plainT; simp only [k]; rfl
    rw [e1]
    exact ⟨TyResF.mk (fun r => plain8_of Y e r [a] k (by simp)) rfl fun t h => Option.some.inj h, fun t h => by obtain rfl := Option.some.inj h; exact bnd_bag (hT a List.mem_cons_self)⟩
  · exact absurd k k13
  · obtain ⟨a, rfl⟩ := len1 (hl.trans (nd_one hN (by omega)))
    have e1 : plainT e [a] = if a.kind = 4 then some tBool else none := by unfold plainT; simp only [k]; rfl
    rw [e1]
    refine ⟨TyResF.mk (fun r => plain15_of Y e r [a] k (by simp)) ?_ fun t h => ?_, fun t h => ?_⟩
    · by_cases c : a.kind = 4 <;> simp [c]
    all_goals
      split at h
      · obtain rfl := Option.some.inj h
        first | rfl | exact bnd_bool
      · cases h
  · obtain ⟨a, rfl⟩ := len1 (hl.trans (nd_one hN (by omega)))
    have e1 : plainT e [a] = if a.kind = 4 then some tInt else none := by unfold plainT; simp only [k]; rfl
    rw [e1]
    refine ⟨TyResF.mk (fun r => plain16_of Y e r [a] k (by simp)) ?_ fun t h => ?_, fun t h => ?_⟩
    · by_cases c : a.kind = 4 <;> simp [c]
    all_goals
      split at h
      · obtain rfl := Option.some.inj h
        first | rfl | exact bnd_int
      · cases h
  · obtain ⟨a, b, rfl⟩ := len2 (hl.trans (nd_two hN (by omega)))
    have e1 : plainT e [a, b] = if a.kind = 4 ∧ a = b then some a else none := by unfold plainT; simp only [k]; rfl
    rw [e1]
    refine ⟨TyResF.mk (fun r => plain9_of Y e r [a, b] hlo k (by simp) (by simp) _ rfl) ?_ fun t h => ?_, fun t h => ?_⟩
    · show decide (a.kind = 4 ∧ a = b) = _
      by_cases c : a.kind = 4 ∧ a = b
      · rw [if_pos c, decide_eq_true c]; rfl
      · rw [if_neg c, decide_eq_false c]; rfl
    · split at h
      · exact Option.some.inj h
      · cases h
    · split at h
      · obtain rfl := Option.some.inj h; exact bnd_ty (hT _ List.mem_cons_self)
      · cases h
  · exact absurd k k10
  · obtain ⟨a, b, rfl⟩ := len2 (hl.trans (nd_two hN (by omega)))
    have ha := hT a List.mem_cons_self
    by_cases c : a.kind = 5
    · obtain ⟨x, y, hxy⟩ := len2 (ha.fn c).2
      have e1 : plainT e [a, b] = if a.kind = 5 ∧ x = b then some y else none := by unfold plainT; simp only [k, hxy]; rfl
      rw [e1]
      by_cases hx : x = b
      · have hx0 : a.args[0]'(by rw [hxy]; simp) = b := by simp [hxy, hx]
        have hh := fun r => plain14_a Y e r [a, b] hlo k (by simp) (by simp) c (by rw [List.getElem_cons_zero, hxy]; simp) (by rw [List.getElem_cons_zero, hxy]; simp) hx0
        have ey : ([a, b][0].args[1]'(by rw [List.getElem_cons_zero, hxy]; simp)) = y := by simp [hxy]
        simp only [ey] at hh
        rw [if_pos ⟨c, hx⟩]
        exact ⟨TyResF.mk hh rfl (fun t h => Option.some.inj h), fun t h => by obtain rfl := Option.some.inj h; exact bnd_arg ha (by rw [hxy]; simp)⟩
      · have hx0 : ¬ a.args[0]'(by rw [hxy]; simp) = b := by simpa [hxy] using hx
        have hh := fun r => plain14_b Y e r [a, b] hlo k (by simp) (by simp) c (by rw [List.getElem_cons_zero, hxy]; simp) hx0
        rw [if_neg fun h => hx h.2]
        have h2 : ∀ r, FnP Tryz.prog 119 [.c (.im (.pt Y)), .c (.im (.pt (eTm e ++ r))), slT eTy [a, b]] (.tp [agT (eTy ty0), bT false]) := fun r => (hh r).treeP rfl
        exact ⟨TyResF.mk h2 rfl (fun t h => by cases h), fun t h => by cases h⟩
    · have e1 : plainT e [a, b] = none := by
        unfold plainT; simp only [k]
        show (match a.args with | [x, y] => if a.kind = 5 ∧ x = b then some y else none | _ => none) = none
        split
        · rw [if_neg fun h => c h.1]
        · rfl
      rw [e1]
      have h2 : ∀ r, FnP Tryz.prog 119 [.c (.im (.pt Y)), .c (.im (.pt (eTm e ++ r))), slT eTy [a, b]] (.tp [agT (eTy ty0), bT false]) := fun r => (plain14_c Y e r [a, b] k (by simp) c).treeP rfl
      exact ⟨TyResF.mk h2 rfl (fun t h => by cases h), fun t h => by cases h⟩
  · obtain ⟨a, b, c, rfl⟩ := len3 (hl.trans (nd_three hN k))
    have e1 : plainT e [a, b, c] = if a.kind = 2 ∧ b = c then some b else none := by unfold plainT; simp only [k]; rfl
    rw [e1]
    refine ⟨TyResF.mk (fun r => plain11_of Y e r [a, b, c] hlo k (by simp) (by simp) (by simp) _ rfl) ?_ fun t h => ?_, fun t h => ?_⟩
    · show decide (a.kind = 2 ∧ b = c) = _
      by_cases g : a.kind = 2 ∧ b = c
      · rw [if_pos g, decide_eq_true g]; rfl
      · rw [if_neg g, decide_eq_false g]; rfl
    · split at h
      · exact Option.some.inj h
      · cases h
    · split at h
      · obtain rfl := Option.some.inj h; exact bnd_ty (hT _ (by simp))
      · cases h
theorem of_res (Y : List IV) (ctx : List Decl) (e : Tm) (o : Option Ty) (H : TyResF Tryz.prog 100 (fun r => [.c (.im (.pt Y)), slT eDecl ctx, .c (.im (.pt (eTm e ++ r)))]) o) (hb : ∀ t, o = some t → okTy (2^20) t ∧ zTy t ≤ 2^40) :
    TyResF Tryz.prog 76 (fun r => [.c (.im (.pt Y)), slT eDecl ctx, .c (.im (.pt (eTm e ++ r)))]) (okT o) := by
  cases o with
  | none =>
    obtain ⟨t', h⟩ := H.no
    exact TyResF.mk (fun r => of_b Y ctx e r t' (h r)) rfl fun t h => (by cases h)
  | some t =>
    obtain ⟨h1, h2⟩ := hb t rfl
    refine TyResF.mk (fun r => of_a Y ctx e r t h1 h2 (H.yes r)) ?_ fun u hu => (Option.some.inj (okT_some hu).1)
    by_cases h : TyOk t
    · rw [okT_of rfl h, decide_eq_true h]; rfl
    · rw [okT_no rfl h, decide_eq_false h]; rfl
/-- What the program's function is known to do, for terms of a size. -/
def OfN (s : List Decl) (n : Nat) : Prop := ∀ e : Tm, msz e ≤ n → TmF e → okTm (2^20) e → ∀ ctx : List Decl, CtxOk ctx → ctx.length + msz e ≤ 2^40 → TyResF Tryz.prog 76 (fun r => [.c (.im (.pt (eSch s))), slT eDecl ctx, .c (.im (.pt (eTm e ++ r)))]) (tyO s n ctx e)
theorem ctxOk_app {ctx : List Decl} {d : Decl} (h : CtxOk ctx) (hd : TyOk d.row) : CtxOk (ctx ++ [d]) := fun x hx => by
  rcases List.mem_append.1 hx with h1 | h1
  · exact h x h1
  · obtain rfl := List.mem_singleton.1 h1; exact hd
theorem form_res (s : List Decl) (hs : okSch (2^20) s) (hrow : ∀ d ∈ s, TyOk d.row) (n : Nat) (IH : OfN s n) (e : Tm) (he : msz e ≤ n + 1) (hF : TmF e) (ho : okTm (2^20) e) (ctx : List Decl) (hc : CtxOk ctx) (hl : ctx.length + msz e ≤ 2^40) :
    TyResF Tryz.prog 100 (fun r => [.c (.im (.pt (eSch s))), slT eDecl ctx, .c (.im (.pt (eTm e ++ r)))]) (tyN s (n + 1) ctx e) ∧ ∀ t, tyN s (n + 1) ctx e = some t → okTy (2^20) t ∧ zTy t ≤ 2^40 := by
  obtain ⟨hN, hFa⟩ := (TmF_eta e).1 hF
  have hoa := (okTm_iff.1 ho).2.2.2.2.2.2
  have hlc : ctx.length ≤ 2^40 := by omega
  have hsub : ∀ a ∈ e.args, ∀ ctx : List Decl, CtxOk ctx → ctx.length + msz a ≤ 2^40 → TyResF Tryz.prog 76 (fun r => [.c (.im (.pt (eSch s))), slT eDecl ctx, .c (.im (.pt (eTm a ++ r)))]) (tyO s n ctx a) := fun a ha ctx h1 h2 =>
    IH a (by have := msz_arg ha; omega) (hFa a ha) (hoa a ha) ctx h1 h2
  by_cases k1 : e.kind = 1
  · have e1 : tyN s (n + 1) ctx e = lookT ctx e.name := by rw [tyN, if_pos k1]
    rw [e1]
    refine ⟨TyResF.mk (fun r => form1_of _ ctx hlc e r k1) rfl fun t h => (by rw [h]; rfl), fun t h => ?_⟩
    obtain ⟨d, hd, rfl⟩ := lookT_mem h
    exact bnd_ty (hc d hd)
  by_cases k2 : e.kind = 2
  · have e1 : tyN s (n + 1) ctx e = some tInt := by rw [tyN, if_neg k1, if_pos k2]
    rw [e1]
    exact ⟨TyResF.mk (fun r => form2_of _ ctx e r k2) rfl (fun t h => Option.some.inj h), fun t h => (by obtain rfl := Option.some.inj h; exact bnd_int)⟩
  by_cases k3 : e.kind = 3
  · have e1 : tyN s (n + 1) ctx e = some tBool := by rw [tyN, if_neg k1, if_neg k2, if_pos k3]
    rw [e1]
    exact ⟨TyResF.mk (fun r => form3_of _ ctx e r k3) rfl (fun t h => Option.some.inj h), fun t h => (by obtain rfl := Option.some.inj h; exact bnd_bool)⟩
  by_cases k12 : e.kind = 12
  · have e1 : tyN s (n + 1) ctx e = (rowT s e.name).map tBag := by rw [tyN, if_neg k1, if_neg k2, if_neg k3, if_pos k12]
    rw [e1]
    refine ⟨TyResF.mk (fun r => form12_of s hs ctx e r k12) (by cases rowT s e.name <;> rfl) fun t h => ?_, fun t h => ?_⟩
    · obtain ⟨u, hu, rfl⟩ := Option.map_eq_some_iff.1 h; rw [hu]; rfl
    · obtain ⟨u, hu, rfl⟩ := Option.map_eq_some_iff.1 h
      obtain ⟨d, hd, rfl⟩ := rowT_mem hu
      exact bnd_bag (hrow d hd)
  by_cases k7 : e.kind = 7
  · have e1 : tyN s (n + 1) ctx e = some (tBag e.ty) := by rw [tyN, if_neg k1, if_neg k2, if_neg k3, if_neg k12, if_pos k7]
    rw [e1]
    exact ⟨TyResF.mk (fun r => form7_of _ ctx e r k7) rfl (fun t h => Option.some.inj h), fun t h => (by obtain rfl := Option.some.inj h; exact bnd_bag (nd_ty hN (.inl k7)))⟩
  by_cases k10 : e.kind = 10
  · obtain ⟨a, b, hab⟩ := len2 (nd_two hN (.inr (.inl k10)))
    have h0 : 0 < e.args.length := by rw [hab]; simp
    have h1 : 1 < e.args.length := by rw [hab]; simp
    have ea : e.args[0] = a := by simp [hab]
    have eb : e.args[1] = b := by simp [hab]
    have ha := List.getElem_mem h0
    have hbm := List.getElem_mem h1
    have za := msz_arg ha
    have zb := msz_arg hbm
    have Ha := hsub _ ha ctx hc (by omega)
    have e1 : tyN s (n + 1) ctx e = (tyO s n ctx e.args[0]).bind fun t => match t.args with
        | [x] => if t.kind = 4 then (tyO s n (ctx ++ [⟨e.name, x⟩]) e.args[1]).bind fun u => if u.kind = 4 then some u else none else none
        | _ => none := by
      rw [tyN, if_neg k1, if_neg k2, if_neg k3, if_neg k12, if_neg k7, if_pos k10, ea, eb, hab]; rfl
    rw [e1]
    cases hA : tyO s n ctx e.args[0] with
    | none =>
      rw [hA] at Ha
      obtain ⟨t', ht'⟩ := Ha.no
      have h2 : ∀ r, FnP Tryz.prog 100 [.c (.im (.pt (eSch s))), slT eDecl ctx, .c (.im (.pt (eTm e ++ r)))] (.tp [agT (eTy ty0), bT false]) := fun r => (form10_a _ ctx e r k10 h0 t' false (by simp) ht').treeP rfl
      exact ⟨TyResF.mk h2 rfl (fun t h => by cases h), fun t h => by cases h⟩
    | some t =>
      rw [hA] at Ha
      have hT := (okT_some hA).2
      by_cases hk : t.kind = 4
      · obtain ⟨x, hx⟩ := len1 (hT.bag hk).2
        have hx0 : 0 < t.args.length := by rw [hx]; simp
        have ex : t.args[0] = x := by simp [hx]
        have Hb := hsub _ hbm (ctx ++ [⟨e.name, t.args[0]⟩])
        have hxk : TyOk t.args[0] := by
          have hbg := hT
          refine ⟨?_, ?_, hT.arg (List.getElem_mem hx0)⟩
          · have h1 := hT.1
            have h2 := tsz_eta t
            have h3 := tszT_succ (l := t.args) (i := 0) hx0
            have h4 := tszT_le (l := t.args) (i := 0 + 1)
            omega
          · exact tdpL_le.1 (show tdpL t.args ≤ 7 by have := tdp_eta t; have := hT.2.1; omega) _ (List.getElem_mem hx0)
        have Hb := Hb (ctxOk_app hc hxk) (by simp; omega)
        have e2 : ((some t).bind fun t => match t.args with
            | [x] => if t.kind = 4 then (tyO s n (ctx ++ [⟨e.name, x⟩]) e.args[1]).bind fun u => if u.kind = 4 then some u else none else none
            | _ => none) = (tyO s n (ctx ++ [⟨e.name, t.args[0]⟩]) e.args[1]).bind fun u => if u.kind = 4 then some u else none := by
          rw [Option.bind_some, ex]; simp only [hx, hk, if_true]
        rw [e2]
        obtain ⟨u', hu', hue⟩ := Hb
        refine ⟨TyResF.mk (fun r => form10_b _ ctx hlc e r k10 h0 h1 t u' _ hk hx0 Ha.yes hu') ?_ fun u hu => ?_, fun u hu => ?_⟩
        · cases hB : tyO s n (ctx ++ [⟨e.name, t.args[0]⟩]) e.args[1] with
          | none => rfl
          | some u =>
            obtain rfl := hue u hB
            by_cases g : u'.kind = 4 <;> simp [g]
        · obtain ⟨v, hv, hv2⟩ := Option.bind_eq_some_iff.1 hu
          obtain rfl := hue v hv
          split at hv2
          · exact Option.some.inj hv2
          · cases hv2
        · obtain ⟨v, hv, hv2⟩ := Option.bind_eq_some_iff.1 hu
          split at hv2
          · obtain rfl := Option.some.inj hv2
            exact bnd_ty (okT_some hv).2
          · cases hv2
      · have e2 : ((some t).bind fun t => match t.args with
            | [x] => if t.kind = 4 then (tyO s n (ctx ++ [⟨e.name, x⟩]) e.args[1]).bind fun u => if u.kind = 4 then some u else none else none
            | _ => none) = none := by
          rw [Option.bind_some]
          split
          · rw [if_neg hk]
          · rfl
        rw [e2]
        have h2 : ∀ r, FnP Tryz.prog 100 [.c (.im (.pt (eSch s))), slT eDecl ctx, .c (.im (.pt (eTm e ++ r)))] (.tp [agT (eTy ty0), bT false]) := fun r => (form10_a _ ctx e r k10 h0 t true (fun h => hk h.2) Ha.yes).treeP rfl
        exact ⟨TyResF.mk h2 rfl (fun t h => by cases h), fun t h => by cases h⟩
  by_cases k13 : e.kind = 13
  · obtain ⟨a, hab⟩ := len1 (nd_one hN (.inr (.inr (.inl k13))))
    have h0 : 0 < e.args.length := by rw [hab]; simp
    have ea : e.args[0] = a := by simp [hab]
    have ha := List.getElem_mem h0
    have za := msz_arg ha
    have hty := nd_ty hN (.inr k13)
    have Ha := hsub _ ha (ctx ++ [⟨e.name, e.ty⟩]) (ctxOk_app hc hty) (by simp; omega)
    have e1 : tyN s (n + 1) ctx e = (tyO s n (ctx ++ [⟨e.name, e.ty⟩]) e.args[0]).map fun t => tFun e.ty t := by
      rw [tyN, if_neg k1, if_neg k2, if_neg k3, if_neg k12, if_neg k7, if_neg k10, if_pos k13, ea, hab]; rfl
    rw [e1]
    obtain ⟨t', ht', hte⟩ := Ha
    have e2 : slI eTy (tFun e.ty t').args = .sl 2 (eTy e.ty ++ eTy t') := by show IV.sl 2 ([e.ty, t'].flatMap eTy) = _; simp
    have h2 : ∀ r, FnP Tryz.prog 100 [.c (.im (.pt (eSch s))), slT eDecl ctx, .c (.im (.pt (eTm e ++ r)))] (.tp [agT (eTy (tFun e.ty t')), bT (tyO s n (ctx ++ [⟨e.name, e.ty⟩]) e.args[0]).isSome]) := fun r => (form13_of _ ctx hlc e r k13 h0 t' _ ht').treeP (by rw [agT, eTy_eta (tFun e.ty t'), e2]; rfl)
    refine ⟨TyResF.mk h2 (by cases tyO s n (ctx ++ [⟨e.name, e.ty⟩]) e.args[0] <;> rfl) fun t h => ?_, fun t h => ?_⟩
    · obtain ⟨u, hu, rfl⟩ := Option.map_eq_some_iff.1 h
      rw [hte u hu]
    · obtain ⟨u, hu, rfl⟩ := Option.map_eq_some_iff.1 h
      exact bnd_fun hty (okT_some hu).2
  have e1 : tyN s (n + 1) ctx e = (allT (e.args.map fun a => tyO s n ctx a)).bind fun l => plainT e l := by
    rw [tyN, if_neg k1, if_neg k2, if_neg k3, if_neg k12, if_neg k7, if_neg k10, if_neg k13]; rfl
  rw [e1]
  have Hall : ∀ u ∈ e.args, ∀ r : List IV, TyRes Tryz.prog 76 [.c (.im (.pt (eSch s))), slT eDecl ctx, .c (.im (.pt (eTm u ++ r)))] (tyO s n ctx u) := fun u hu r => (hsub u hu ctx hc (by have := msz_arg hu; omega)).to r
  cases hA : allT (e.args.map fun a => tyO s n ctx a) with
  | none =>
    have h2 : ∀ r, FnP Tryz.prog 100 [.c (.im (.pt (eSch s))), slT eDecl ctx, .c (.im (.pt (eTm e ++ r)))] (.tp [agT (eTy ty0), bT false]) := fun r => (formN_of _ ctx e r k1 k2 k3 k12 k7 k10 k13 ((all_b _ ctx e r ho (fun a => tyO s n ctx a) Hall hA).treeP rfl)).treeP rfl
    exact ⟨TyResF.mk h2 rfl (fun t h => by cases h), fun t h => by cases h⟩
  | some l =>
    have hlen : l.length = e.args.length := by rw [allT_len hA, List.length_map]
    have hT : ∀ t ∈ l, TyOk t := fun t ht => by
      obtain ⟨a, ha, hat⟩ := List.mem_map.1 (allT_mem hA ht)
      exact (okT_some hat).2
    obtain ⟨Hp, Hb⟩ := plain_res (eSch s) e hN ⟨k1, k2, k3, k12, k7, k10, k13⟩ ho l hlen hT
    rw [Option.bind_some]
    obtain ⟨t', ht', hte⟩ := Hp
    exact ⟨TyResF.mk (fun r => formP_of _ ctx e r k1 k2 k3 k12 k7 k10 k13 l t' _ (all_a _ ctx e r ho (fun a => tyO s n ctx a) Hall l hA) (ht' r)) rfl hte, Hb⟩
theorem of_all (s : List Decl) (hs : okSch (2^20) s) (hrow : ∀ d ∈ s, TyOk d.row) : ∀ n, OfN s n
  | 0 => fun e he => by cases e; simp only [msz] at he; omega
  | n + 1 => fun e he hF ho ctx hc hl => by
    obtain ⟨h1, h2⟩ := form_res s hs hrow n (of_all s hs hrow n) e he hF ho ctx hc hl
    exact of_res _ ctx e _ h1 h2
end Go.VC.T
/- Does a term have a base type? The program's side. -/
namespace Go.VC
open Go
/-- A term of a right form, without functions, of a base type. -/
noncomputable def hasB (s : List Decl) (ctx : List Decl) (e : Tm) (k : Int) : Bool := decide (TmF e ∧ BsT false e ∧ ∃ t, tyO s (msz e) ctx e = some t ∧ t.kind = k)
theorem hasB_no {s ctx : List Decl} {e : Tm} {k : Int} (h : ¬ (TmF e ∧ BsT false e ∧ ∃ t, tyO s (msz e) ctx e = some t ∧ t.kind = k)) : hasB s ctx e k = false := decide_eq_false h
end Go.VC
namespace Go.VC.T
open Go Go.VC Go.Proofs Go.VC.F
set_option linter.unusedSimpArgs false
set_option linter.unusedVariables false
set_option linter.defProp false
set_option maxRecDepth 100000
set_option maxHeartbeats 2000000
def fc36A91 := (And.intro (And.intro (And.intro (And.intro (And.intro sz3 ag3) (And.intro zv3 (And.intro un3 sz4))) (And.intro (And.intro ag4 zv4) (And.intro un4 (And.intro sz39 ag39)))) (And.intro (And.intro (And.intro zv39 fl39_0) (And.intro pl39 (And.intro sz43 ag43))) (And.intro (And.intro zv43 (And.intro fl43_0 fl43_1)) (And.intro fl43_2 (And.intro pl43 sz70))))) (And.intro (And.intro (And.intro (And.intro ag70 zv70) (And.intro sb70 (And.intro un70 el70))) (And.intro (And.intro ap70 sz77) (And.intro ag77 (And.intro zv77 un77)))) (And.intro (And.intro (And.intro sz105 ag105) (And.intro zv105 (And.intro fl105_0 pl105))) (And.intro (And.intro okf74 (And.intro okf75 okf76)) (And.intro sz37 (And.intro sz25 sz41))))))
theorem hasBase_of (s : List Decl) (ctx : List Decl) (e : Tm) (he : okTm (2^20) e) (hz : zTm e ≤ 2^40) (k : Int) (r : List IV) (t : Ty) (b : Bool) (H : TmF e → FnP Tryz.prog 76 [.c (.im (.pt (eSch s))), slT eDecl ctx, .c (.im (.pt (eTm e ++ r)))] (.tp [agT (eTy t), bT b])) : FnS Tryz.prog 36 [] [agT (eSch s), slT eDecl ctx, .c (.im (.pt (eTm e ++ r))), iT k] [] (bT (decide (TmF e) && (decide (BsT false e) && (b && decide (t.kind = k))))) := by
  refine FnS.go [0, 1, 2, 3, 4, 8, 9, 10, 11, 19] [] Tryz.func36 rfl (fun kt kz => ?_)
  have fcx := fc36A91
  simp only [Tryz.f36]
  refine Run ((And.intro @eSch_eta (And.intro @eTm_eta @eTy_eta))) ?_; repeat' (first | (with_reducible exact True.intro) | (with_reducible refine Lf.mk ?_ ?_) | (with_reducible intro hb))
  refine Cal ((And.intro @eTm_eta @eTy_eta)) (termForm_ok e he hz r) ?_
  by_cases hF : TmF e
  · have gF := eq_true hF
    refine Run ((And.intro (And.intro @eSch_eta @eTm_eta) (And.intro @eTy_eta @gF))) ?_; repeat' (first | (with_reducible exact True.intro) | (with_reducible refine Lf.mk ?_ ?_) | (with_reducible intro hb))
    refine Cal ((And.intro @eTm_eta @eTy_eta)) (baseTerm_ok e he r false) ?_
    by_cases hB : BsT false e
    · have gB := eq_true hB
      refine Run ((And.intro (And.intro @eSch_eta @eTm_eta) (And.intro @eTy_eta (And.intro @gF @gB)))) ?_; repeat' (first | (with_reducible exact True.intro) | (with_reducible refine Lf.mk ?_ ?_) | (with_reducible intro hb))
      refine CallG.frz1 18 rfl ?_
      simp -dsimp (maxSteps := 2000000) (disch := omega) only [vs, ↓Option.bind_some, ev1, ofV, scalarB, Kn, Kb, calleeOf, evLoad, ptr, evField, evFieldAddr, shift, ↓pt_at, ↓pt_at1, evExtract, evBin, evLen, evConv, cellsT, noS, Cell.has, Cell.hasN, Cell.anyN, toIV, toIV0, toIVs, ownC, srcM, Ob.own, Ob.esz, allSc, nilK, lenC, ownCell, isPtr, ptrNil, frzO, Cell.frz, Cell.keys, ↓reduceIte, reduceCtorEq, Nat.reduceEqDiff, Nat.reduceBEq, Nat.reduceBNe, Nat.reduceAdd, Nat.reduceMul, Nat.reduceSub, Nat.reduceLT, Nat.reduceLeDiff, Nat.reducePow, Int.reduceLT, Int.reduceLE, Int.reduceEq, Int.reduceNe, quietB, Nat.reduceMod, Int.reduceToNat, ne_eq, eq_self, exists_const, evBytes, byRow, byL, byStr_size, ifsz, ByteArray.size_append, Option.none_or, Option.some_or, evLook, keyD, fc36A91, eSch_eta]
      refine CalI ((And.intro @eSch_eta (And.intro @eTm_eta @eTy_eta))) (H hF) ?_
      refine Run ((And.intro @eSch_eta (And.intro @eTm_eta @eTy_eta))) ?_; repeat' (first | (with_reducible exact True.intro) | (with_reducible refine Lf.mk ?_ ?_) | (with_reducible intro hb))
      refine ⟨rfl, rfl, ?_⟩
      refine Run ((And.intro @eSch_eta (And.intro @eTm_eta @eTy_eta))) ?_; repeat' (first | (with_reducible exact True.intro) | (with_reducible refine Lf.mk ?_ ?_) | (with_reducible intro hb))
    · have gB := eq_false hB
      refine Run ((And.intro (And.intro @eSch_eta @eTm_eta) (And.intro @eTy_eta (And.intro @gF @gB)))) ?_; repeat' (first | (with_reducible exact True.intro) | (with_reducible refine Lf.mk ?_ ?_) | (with_reducible intro hb))
  · have gF := eq_false hF
    refine Run ((And.intro (And.intro @eSch_eta @eTm_eta) (And.intro @eTy_eta @gF))) ?_; repeat' (first | (with_reducible exact True.intro) | (with_reducible refine Lf.mk ?_ ?_) | (with_reducible intro hb))

end Go.VC.T
