/- Terms without questions: positive queries. -/
import Derived.Test.YtiohpbhdonlonaaA2
import Derived.Test.YtiohpbhdonlonaaD9
namespace Go.VC
open Go
mutual
/-- Does a term ask about a bag? -/
def askT : Tm → Bool
  | .mk k _ _ _ _ a => askL a || (decide (k = 15) || decide (k = 16))
def askL : List Tm → Bool
  | [] => false
  | t :: r => askT t || askL r
end
theorem askL_any : ∀ (l : List Tm), askL l = l.any askT
  | [] => by rw [askL]; rfl
  | t :: r => by rw [askL, askL_any r, List.any_cons]
theorem askT_eta (t : Tm) : askT t = (t.args.any askT || (decide (t.kind = 15) || decide (t.kind = 16))) := by
  cases t with
  | mk k s n t l a => rw [askT, askL_any]; rfl
end Go.VC
namespace Go.VC.T
open Go Go.VC Go.Proofs Go.VC.F
set_option linter.unusedSimpArgs false
set_option linter.unusedVariables false
set_option linter.defProp false
set_option maxRecDepth 100000
set_option maxHeartbeats 2000000
def fc138 := (And.intro (And.intro (And.intro (And.intro sz3 (And.intro ag3 zv3)) (And.intro (And.intro un3 sz4) (And.intro ag4 zv4))) (And.intro (And.intro un4 (And.intro sz75 ag75)) (And.intro (And.intro zv75 sb75) (And.intro un75 el75)))) (And.intro (And.intro (And.intro ap75 (And.intro sz77 ag77)) (And.intro (And.intro zv77 fl77_0) (And.intro fl77_1 fl77_2))) (And.intro (And.intro (And.intro fl77_3 fl77_4) (And.intro fl77_5 pl77)) (And.intro (And.intro okf138 sz9) (And.intro sz74 sz38)))))
theorem specAsks_of (t : Tm) (ht : okTm (2^20) t) (H : ∀ u ∈ t.args, FnP Try.prog 138 [agT (eTm u)] (bT (askT u))) : FnS Try.prog 138 [] [agT (eTm t)] [] (bT (askT t)) := by
  refine FnS.go [0, 1, 2, 3, 8, 16] [] Try.func138 rfl (fun kt kz => ?_)
  have fcx := fc138
  simp only [Try.f138]
  have ho := okTm_iff.1 ht
  have hl := ho.2.2.2.2.2.1
  refine Run ((And.intro @eTm_eta @eTy_eta)) ?_; repeat' (first | (with_reducible exact True.intro) | (with_reducible refine Lf.mk ?_ ?_) | (with_reducible intro hb))
  refine Trn (α := Nat) [2, 3, 4, 5, 6, 7, 8, 9, 10, 11, 12, 13, 14, 15, 16] (fun i => [(3, iT i)]) (fun i => [(2, .box 77 ((eTm t).map .im))]) (fun i => i ≤ t.args.length ∧ (t.args.take i).any askT = false) (fun i => t.args.length - i) (0) (⟨Nat.zero_le _, rfl⟩) ((And.intro @eTm_eta @eTy_eta)) ?_; intro lx hI; obtain i := lx; (try simp only [List.nil_append, List.cons_append] at hI ⊢)
  by_cases hlt : lx < t.args.length
  · refine Run ((And.intro @eTm_eta (And.intro @eTy_eta @hlt))) ?_; repeat' (first | (with_reducible exact True.intro) | (with_reducible refine Lf.mk ?_ ?_) | (with_reducible intro hb))
    refine Cal ((And.intro @eTm_eta @eTy_eta)) (H _ (List.getElem_mem hlt)) ?_
    refine Run ((And.intro @eTm_eta @eTy_eta)) ?_; repeat' (first | (with_reducible exact True.intro) | (with_reducible refine Lf.mk ?_ ?_) | (with_reducible intro hb))
    · rw [askT_eta, any_at hlt hb]; rfl
    · exact Nxt ((And.intro @eTm_eta @eTy_eta)) (lx + 1) (⟨by omega, any_take hlt hI.2 hb⟩) (by first | omega | (simp; omega))
  · have ha := any_all (by omega) hI.2
    by_cases h15 : t.kind = 15
    · refine Run ((And.intro (And.intro @eTm_eta @eTy_eta) (And.intro @hlt @h15))) ?_; repeat' (first | (with_reducible exact True.intro) | (with_reducible refine Lf.mk ?_ ?_) | (with_reducible intro hb))
      rw [askT_eta, h15]; simp
    · refine Run ((And.intro (And.intro @eTm_eta @eTy_eta) (And.intro @hlt @h15))) ?_; repeat' (first | (with_reducible exact True.intro) | (with_reducible refine Lf.mk ?_ ?_) | (with_reducible intro hb))
      rw [askT_eta, ha]; simp [h15]

theorem specAsks_ok (t : Tm) (ht : okTm (2^20) t) : FnP Try.prog 138 [agT (eTm t)] (bT (askT t)) := specAsks_of t ht fun u hu => specAsks_ok u ((okTm_iff.1 ht).2.2.2.2.2.2 u hu)
termination_by SizeOf.sizeOf t
decreasing_by exact Tm.mem hu
def fc140 := (And.intro (And.intro (And.intro (And.intro (And.intro sz3 ag3) (And.intro zv3 un3)) (And.intro (And.intro sz4 ag4) (And.intro zv4 un4))) (And.intro (And.intro (And.intro sz75 ag75) (And.intro zv75 sb75)) (And.intro (And.intro un75 el75) (And.intro ap75 sz77)))) (And.intro (And.intro (And.intro (And.intro ag77 zv77) (And.intro fl77_0 fl77_1)) (And.intro (And.intro fl77_2 fl77_3) (And.intro fl77_4 fl77_5))) (And.intro (And.intro (And.intro pl77 sz201) (And.intro ag201 zv201)) (And.intro (And.intro un201 okf140) (And.intro sz9 (And.intro sz74 sz38))))))
theorem implPos_of (t : Tm) (ht : okTm (2^20) t) (H : ∀ u ∈ t.args, ∀ r : List IV, FnP Try.prog 140 [.c (.im (.pt (eTm u ++ r)))] (bT (!askT u))) (r : List IV) : FnS Try.prog 140 [] [.c (.im (.pt (eTm t ++ r)))] [] (bT (!askT t)) := by
  refine FnS.go [0, 2, 3, 15, 20, 21, 22, 31] [] Try.func140 rfl (fun kt kz => ?_)
  have fcx := fc140
  simp only [Try.f140]
  have ho := okTm_iff.1 ht
  have hl := ho.2.2.2.2.2.1
  by_cases h15 : t.kind = 15
  · refine Run ((And.intro @eTm_eta (And.intro @eTy_eta @h15))) ?_; repeat' (first | (with_reducible exact True.intro) | (with_reducible refine Lf.mk ?_ ?_) | (with_reducible intro hb))
    rw [askT_eta, h15]; simp
  · by_cases h16 : t.kind = 16
    · refine Run ((And.intro (And.intro @eTm_eta @eTy_eta) (And.intro @h15 @h16))) ?_; repeat' (first | (with_reducible exact True.intro) | (with_reducible refine Lf.mk ?_ ?_) | (with_reducible intro hb))
      rw [askT_eta, h16]; simp
    · refine Run ((And.intro (And.intro @eTm_eta @eTy_eta) (And.intro @h15 @h16))) ?_; repeat' (first | (with_reducible exact True.intro) | (with_reducible refine Lf.mk ?_ ?_) | (with_reducible intro hb))
      refine Trn (α := Nat) [2, 3, 21, 22, 23, 24, 25, 26, 27, 28, 29, 30, 31, 32] (fun i => [(21, iT i)]) (fun i => []) (fun i => i ≤ t.args.length ∧ (t.args.take i).any askT = false) (fun i => t.args.length - i) (0) (⟨Nat.zero_le _, rfl⟩) ((And.intro @eTm_eta @eTy_eta)) ?_; intro lx hI; obtain i := lx; (try simp only [List.nil_append, List.cons_append] at hI ⊢)
      by_cases hlt : lx < t.args.length
      · refine Run ((And.intro @eTm_eta (And.intro @eTy_eta @hlt))) ?_; repeat' (first | (with_reducible exact True.intro) | (with_reducible refine Lf.mk ?_ ?_) | (with_reducible intro hb))
        refine Cal ((And.intro @eTm_eta @eTy_eta)) (H _ (List.getElem_mem hlt) _) ?_
        refine Run ((And.intro @eTm_eta @eTy_eta)) ?_; repeat' (first | (with_reducible exact True.intro) | (with_reducible refine Lf.mk ?_ ?_) | (with_reducible intro hb))
        · rw [askT_eta, any_at hlt (by simpa using hb)]; rfl
        · exact Nxt ((And.intro @eTm_eta @eTy_eta)) (lx + 1) (⟨by omega, any_take hlt hI.2 (by simpa using hb)⟩) (by first | omega | (simp; omega))
      · have ha := any_all (by omega) hI.2
        refine Run ((And.intro @eTm_eta (And.intro @eTy_eta @hlt))) ?_; repeat' (first | (with_reducible exact True.intro) | (with_reducible refine Lf.mk ?_ ?_) | (with_reducible intro hb))
        rw [askT_eta, ha]; simp [h15, h16]

theorem implPos_ok (t : Tm) (ht : okTm (2^20) t) (r : List IV) : FnP Try.prog 140 [.c (.im (.pt (eTm t ++ r)))] (bT (!askT t)) := implPos_of t ht (fun u hu r => implPos_ok u ((okTm_iff.1 ht).2.2.2.2.2.2 u hu) r) r
termination_by SizeOf.sizeOf t
decreasing_by exact Tm.mem hu
end Go.VC.T
