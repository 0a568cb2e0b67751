/- Data (Mono): how they are marked. -/
import Derived.Test.YtiohpbhdonlonaaM1
namespace Go.VC.T
open Go Go.VC Go.Proofs Go.VC.F
set_option linter.unusedSimpArgs false
set_option linter.unusedVariables false
set_option linter.defProp false
set_option maxRecDepth 100000
set_option maxHeartbeats 2000000
def fc96 := (And.intro (And.intro (And.intro (And.intro sz3 (And.intro ag3 zv3)) (And.intro (And.intro un3 sz4) (And.intro ag4 zv4))) (And.intro (And.intro un4 (And.intro sz22 ag22)) (And.intro (And.intro zv22 sb22) (And.intro un22 el22)))) (And.intro (And.intro (And.intro ap22 (And.intro sz38 ag38)) (And.intro (And.intro zv38 sb38) (And.intro un38 el38))) (And.intro (And.intro (And.intro ap38 sz149) (And.intro ag149 zv149)) (And.intro (And.intro fl149_0 fl149_1) (And.intro pl149 okf193)))))
theorem markMonoS_of (xs : List Mono) (k : Int) (hk : 0 ≤ k ∧ k + (cnL (xs.flatMap eMono) : Int) ≤ 2^60) : FnS Try.prog 96 [(1, .row xs.length (xs.flatMap eMono))] [.c (.os 1 xs.length), iT k] [(1, .row xs.length (mkL mT k (xs.flatMap eMono)))] (iT (k + (cnL (xs.flatMap eMono) : Int))) := by
  refine FnS.go [0, 1, 4, 5, 9] [] Try.func96 rfl (fun kt kz => ?_)
  have fcx := fc96
  simp only [Try.f96]
  have hx : xs.length ≤ 2^60 := by have := cnL_len (E := eMono) (xs := xs); omega
  refine Run (cast_succ) ?_; repeat' (first | (with_reducible exact True.intro) | (with_reducible refine Lf.mk ?_ ?_) | (with_reducible intro hb))
  refine Trn (α := Nat) [1, 5, 6, 7, 8, 9, 10, 11, 12, 13, 14, 15, 16, 17, 18, 19, 20, 21, 22, 23, 24, 25] (fun i => [(5, iT i), (1, iT (k + (cnT eMono xs i : Int)))]) (fun i => [(1, .row xs.length (mkA mT eMono k xs i ++ (xs.drop i).flatMap eMono))]) (fun i => i ≤ xs.length) (fun i => xs.length - i) (0) (Nat.zero_le _) ((And.intro (And.intro (mkA_zero mT (E := eMono) (k := k) (xs := xs)) (cnT_zero (E := eMono) (xs := xs))) (And.intro (List.drop_zero (l := xs)) (And.intro @Int.ofNat_zero @Int.add_zero)))) ?_; intro lx hI; obtain i := lx; (try simp only [List.nil_append, List.cons_append] at hI ⊢)
  by_cases hlt : lx < xs.length
  · have hA : (mkA mT eMono k xs lx).length = lx * 2 := by have := mkA_len mT (E := eMono) (k := k) (Nat.le_of_lt hlt); omega
    have hd := drop_flat (E := eMono) hlt
    rw [eMono_eta] at hd
    have hc := cnT_le (E := eMono) (xs := xs) (i := lx + 1)
    have ecn : cnT eMono xs (lx + 1) = cnT eMono xs lx + (1 + cnL (xs[lx].vars.flatMap eS)) := by rw [cnT_succ hlt]; (simp only [eMono_eta, slI, cnL_i, cnL_s, cnL_l, cnL_n]) <;> omega
    have e : k + (cnT eMono xs lx : Int) + 1 + (cnL (xs[lx].vars.flatMap eS) : Int) = k + (cnT eMono xs (lx + 1) : Int) := by omega
    have ec : mkA mT eMono k xs lx ++ (.sc (.int .i64 (k + (cnT eMono xs lx : Int))) :: .sl xs[lx].vars.length (mkL mT (k + (cnT eMono xs lx : Int) + 1) (xs[lx].vars.flatMap eS)) :: (xs.drop (lx + 1)).flatMap eMono) = mkA mT eMono k xs (lx + 1) ++ (xs.drop (lx + 1)).flatMap eMono := by rw [mkA_succ mT hlt]; simp only [eMono_eta, slI, mkL_i, mkL_s, mkL_l, mkL_n, List.append_assoc, List.cons_append, List.nil_append]
    refine Run ((And.intro (And.intro (And.intro @hd @hlt) (And.intro @ivl @iv0)) (And.intro (And.intro @ivs @ownCells_get) (And.intro (mid_set0 hA) (And.intro (mid_set 1 hA) (mid_get 1 hA)))))) ?_; repeat' (first | (with_reducible exact True.intro) | (with_reducible refine Lf.mk ?_ ?_) | (with_reducible intro hb))
    refine CalN (⟨⟩ : Nsk (1) (1) ((lx * 2 + 1))) ((And.intro (And.intro (And.intro @hd @hlt) (And.intro @ivl @iv0)) (And.intro (And.intro @ivs @ownCells_get) (And.intro (mid_set0 hA) (And.intro (mid_set 1 hA) (mid_get 1 hA)))))) (markStringS_ok (xs[lx].vars) (k + (cnT eMono xs lx : Int) + 1) ⟨by omega, by omega⟩) ?_
    refine Run ((And.intro (And.intro (And.intro @hd @hlt) (And.intro @ivl @iv0)) (And.intro (And.intro @ivs @ownCells_get) (And.intro (mid_set0 hA) (And.intro (mid_set 1 hA) (mid_get 1 hA)))))) ?_; repeat' (first | (with_reducible exact True.intro) | (with_reducible refine Lf.mk ?_ ?_) | (with_reducible intro hb))
    exact Nxt ((And.intro @e @ec)) (lx + 1) (by omega) (by first | omega | (simp; omega))
  · have hge : xs.length ≤ lx := by omega
    have e1 := cnT_all (E := eMono) hge
    have e2 := mkA_all mT (E := eMono) (k := k) hge
    have e3 := drop_all (E := eMono) hge
    refine Run ((And.intro (And.intro @e1 @e2) (And.intro @e3 @hlt))) ?_; repeat' (first | (with_reducible exact True.intro) | (with_reducible refine Lf.mk ?_ ?_) | (with_reducible intro hb))

theorem markMonoS_ok (xs : List Mono) (k : Int) (hk : 0 ≤ k ∧ k + (cnL (xs.flatMap eMono) : Int) ≤ 2^60) : FnS Try.prog 96 [(1, .row xs.length (xs.flatMap eMono))] [.c (.os 1 xs.length), iT k] [(1, .row xs.length (mkL mT k (xs.flatMap eMono)))] (iT (k + (cnL (xs.flatMap eMono) : Int))) := markMonoS_of xs k hk
theorem markMonoS_q (xs : List Mono) (k : Int) (hk : 0 ≤ k ∧ k + (cnL (xs.flatMap eMono) : Int) ≤ 2^60) (q : Nat) : FnS Try.prog 96 [(q, .row xs.length (xs.flatMap eMono))] [.c (.os q xs.length), iT k] [(q, .row xs.length (mkL mT k (xs.flatMap eMono)))] (iT (k + (cnL (xs.flatMap eMono) : Int))) := by
  obtain ⟨p, hp⟩ := pm1 1 q
  refine ((markMonoS_ok xs k hk).renA p).asA ?_ ?_ ?_ ?_ <;> simp [renS, Ob.ren, TV.ren, Cell.ren, hp]
def fc97 := (And.intro (And.intro (And.intro (And.intro sz3 (And.intro ag3 zv3)) (And.intro (And.intro un3 sz4) (And.intro ag4 zv4))) (And.intro (And.intro un4 (And.intro sz22 ag22)) (And.intro (And.intro zv22 sb22) (And.intro un22 el22)))) (And.intro (And.intro (And.intro ap22 (And.intro sz38 ag38)) (And.intro (And.intro zv38 sb38) (And.intro un38 el38))) (And.intro (And.intro (And.intro ap38 sz149) (And.intro ag149 zv149)) (And.intro (And.intro fl149_0 fl149_1) (And.intro pl149 okf194)))))
theorem heldMonoS_of (xs : List Mono) (k : Int) (hk : 0 ≤ k ∧ k + (cnL (xs.flatMap eMono) : Int) ≤ 2^60) : FnS Try.prog 97 [] [.c (.im (.sl xs.length (mkL mT k (xs.flatMap eMono)))), iT k] [] (iT (k + (cnL (xs.flatMap eMono) : Int))) := by
  refine FnS.go [0, 1, 4, 5, 9, 18, 29] [] Try.func97 rfl (fun kt kz => ?_)
  have fcx := fc97
  simp only [Try.f97]
  have hx : xs.length ≤ 2^60 := by have := cnL_len (E := eMono) (xs := xs); omega
  refine Run (cast_succ) ?_; repeat' (first | (with_reducible exact True.intro) | (with_reducible refine Lf.mk ?_ ?_) | (with_reducible intro hb))
  refine Trn (α := Nat) [1, 4, 5, 6, 7, 8, 9, 10, 11, 12, 13, 14, 15, 16, 17, 18, 19, 20, 21, 22, 23, 24, 25, 26, 27, 28, 29] (fun i => [(5, iT i), (1, iT (k + (cnT eMono xs i : Int)))]) (fun i => []) (fun i => i ≤ xs.length) (fun i => xs.length - i) (0) (Nat.zero_le _) ((And.intro (cnT_zero (E := eMono) (xs := xs)) (And.intro @Int.ofNat_zero @Int.add_zero))) ?_; intro lx hI; obtain i := lx; (try simp only [List.nil_append, List.cons_append] at hI ⊢)
  by_cases hlt : lx < xs.length
  · have hp := pt_mk mT (E := eMono) (k := k) hlt
    simp only [eMono_eta, slI, mkL_i, mkL_s, mkL_l, mkL_n, List.cons_append, List.nil_append] at hp
    have hc := cnT_le (E := eMono) (xs := xs) (i := lx + 1)
    have ecn : cnT eMono xs (lx + 1) = cnT eMono xs lx + (1 + cnL (xs[lx].vars.flatMap eS)) := by rw [cnT_succ hlt]; (simp only [eMono_eta, slI, cnL_i, cnL_s, cnL_l, cnL_n]) <;> omega
    have e : k + (cnT eMono xs lx : Int) + 1 + (cnL (xs[lx].vars.flatMap eS) : Int) = k + (cnT eMono xs (lx + 1) : Int) := by omega
    refine Run ((And.intro @hp @hlt)) ?_; repeat' (first | (with_reducible exact True.intro) | (with_reducible refine Lf.mk ?_ ?_) | (with_reducible intro hb))
    refine Cal ((And.intro @hp @hlt)) (heldStringS_ok (xs[lx].vars) (k + (cnT eMono xs lx : Int) + 1) ⟨by omega, by omega⟩) ?_
    have hn1 : ((k + (cnT eMono xs lx : Int) + 1 + (cnL (xs[lx].vars.flatMap eS) : Int)) < 0) = False := eq_false (by omega)
    refine Run ((And.intro @hp (And.intro @hlt @hn1))) ?_; repeat' (first | (with_reducible exact True.intro) | (with_reducible refine Lf.mk ?_ ?_) | (with_reducible intro hb))
    exact Nxt (@e) (lx + 1) (by omega) (by first | omega | (simp; omega))
  · have hge : xs.length ≤ lx := by omega
    have e1 := cnT_all (E := eMono) hge
    refine Run ((And.intro @e1 @hlt)) ?_; repeat' (first | (with_reducible exact True.intro) | (with_reducible refine Lf.mk ?_ ?_) | (with_reducible intro hb))

theorem heldMonoS_ok (xs : List Mono) (k : Int) (hk : 0 ≤ k ∧ k + (cnL (xs.flatMap eMono) : Int) ≤ 2^60) : FnP Try.prog 97 [.c (.im (.sl xs.length (mkL mT k (xs.flatMap eMono)))), iT k] (iT (k + (cnL (xs.flatMap eMono) : Int))) := heldMonoS_of xs k hk

end Go.VC.T
