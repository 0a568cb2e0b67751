/- Rows of texts and numbers: how they are marked. -/
import Derived.Test.YtiohpbhdonlonaaM0
namespace Go.VC.T
open Go Go.VC Go.Proofs Go.VC.F
set_option linter.unusedSimpArgs false
set_option linter.unusedVariables false
set_option linter.defProp false
set_option maxRecDepth 100000
set_option maxHeartbeats 2000000
def fc193 := (And.intro (And.intro (And.intro (And.intro sz3 ag3) (And.intro zv3 (And.intro un3 sz4))) (And.intro (And.intro ag4 zv4) (And.intro un4 (And.intro sz9 ag9)))) (And.intro (And.intro (And.intro zv9 un9) (And.intro sz38 (And.intro ag38 zv38))) (And.intro (And.intro sb38 un38) (And.intro el38 (And.intro ap38 okf228)))))
theorem markStringS_of (xs : List ByteArray) (k : Int) (hk : 0 ≤ k ∧ k + (cnL (xs.flatMap eS) : Int) ≤ 2^60) : FnS Try.prog 193 [(1, .row xs.length (xs.flatMap eS))] [.c (.os 1 xs.length), iT k] [(1, .row xs.length (mkL mT k (xs.flatMap eS)))] (iT (k + (cnL (xs.flatMap eS) : Int))) := by
  refine FnS.go [0, 1, 4, 5, 9] [] Try.func193 rfl (fun kt kz => ?_)
  have fcx := fc193
  simp only [Try.f193]
  have hx : xs.length ≤ 2^60 := by have := cnL_len (E := eS) (xs := xs); omega
  refine Run (cast_succ) ?_; repeat' (first | (with_reducible exact True.intro) | (with_reducible refine Lf.mk ?_ ?_) | (with_reducible intro hb))
  refine Trn (α := Nat) [1, 5, 6, 7, 8, 9, 10, 11, 12, 13, 14, 15, 16, 17, 18] (fun i => [(5, iT i), (1, iT (k + (cnT eS xs i : Int)))]) (fun i => [(1, .row xs.length (mkA mT eS k xs i ++ (xs.drop i).flatMap eS))]) (fun i => i ≤ xs.length) (fun i => xs.length - i) (0) (Nat.zero_le _) ((And.intro (And.intro (mkA_zero mT (E := eS) (k := k) (xs := xs)) (cnT_zero (E := eS) (xs := xs))) (And.intro (List.drop_zero (l := xs)) (And.intro @Int.ofNat_zero @Int.add_zero)))) ?_; intro lx hI; obtain i := lx; (try simp only [List.nil_append, List.cons_append] at hI ⊢)
  by_cases hlt : lx < xs.length
  · have hA : (mkA mT eS k xs lx).length = lx := by have := mkA_len mT (E := eS) (k := k) (Nat.le_of_lt hlt); omega
    have hd := drop_flat (E := eS) hlt
    simp only [eS] at hd
    have hc := cnT_le (E := eS) (xs := xs) (i := lx + 1)
    have ecn : cnT eS xs (lx + 1) = cnT eS xs lx + (1) := by rw [cnT_succ hlt]; (simp only [eS, slI, cnL_i, cnL_s, cnL_l, cnL_n]) <;> omega
    have e : k + (cnT eS xs lx : Int) + 1 = k + (cnT eS xs (lx + 1) : Int) := by omega
    have ec : mkA mT eS k xs lx ++ (.sc (.string (mT (k + (cnT eS xs lx : Int)))) :: (xs.drop (lx + 1)).flatMap eS) = mkA mT eS k xs (lx + 1) ++ (xs.drop (lx + 1)).flatMap eS := by rw [mkA_succ mT hlt]; simp only [eS, slI, mkL_i, mkL_s, mkL_l, mkL_n, List.append_assoc, List.cons_append, List.nil_append]
    refine Run ((And.intro (And.intro @hd (And.intro @hlt @ivl)) (And.intro (And.intro @iv0 @ivs) (And.intro @ownCells_get (mid_set0 hA))))) ?_; repeat' (first | (with_reducible exact True.intro) | (with_reducible refine Lf.mk ?_ ?_) | (with_reducible intro hb))
    refine Cal ((And.intro (And.intro @hd (And.intro @hlt @ivl)) (And.intro (And.intro @iv0 @ivs) (And.intro @ownCells_get (mid_set0 hA))))) (markText_ok (k + (cnT eS xs lx : Int)) (by omega)) ?_
    refine Run ((And.intro (And.intro @hd (And.intro @hlt @ivl)) (And.intro (And.intro @iv0 @ivs) (And.intro @ownCells_get (mid_set0 hA))))) ?_; repeat' (first | (with_reducible exact True.intro) | (with_reducible refine Lf.mk ?_ ?_) | (with_reducible intro hb))
    exact Nxt ((And.intro @e @ec)) (lx + 1) (by omega) (by first | omega | (simp; omega))
  · have hge : xs.length ≤ lx := by omega
    have e1 := cnT_all (E := eS) hge
    have e2 := mkA_all mT (E := eS) (k := k) hge
    have e3 := drop_all (E := eS) hge
    refine Run ((And.intro (And.intro @e1 @e2) (And.intro @e3 @hlt))) ?_; repeat' (first | (with_reducible exact True.intro) | (with_reducible refine Lf.mk ?_ ?_) | (with_reducible intro hb))

theorem markStringS_ok (xs : List ByteArray) (k : Int) (hk : 0 ≤ k ∧ k + (cnL (xs.flatMap eS) : Int) ≤ 2^60) : FnS Try.prog 193 [(1, .row xs.length (xs.flatMap eS))] [.c (.os 1 xs.length), iT k] [(1, .row xs.length (mkL mT k (xs.flatMap eS)))] (iT (k + (cnL (xs.flatMap eS) : Int))) := markStringS_of xs k hk
theorem markStringS_q (xs : List ByteArray) (k : Int) (hk : 0 ≤ k ∧ k + (cnL (xs.flatMap eS) : Int) ≤ 2^60) (q : Nat) : FnS Try.prog 193 [(q, .row xs.length (xs.flatMap eS))] [.c (.os q xs.length), iT k] [(q, .row xs.length (mkL mT k (xs.flatMap eS)))] (iT (k + (cnL (xs.flatMap eS) : Int))) := by
  obtain ⟨p, hp⟩ := pm1 1 q
  refine ((markStringS_ok xs k hk).renA p).asA ?_ ?_ ?_ ?_ <;> simp [renS, Ob.ren, TV.ren, Cell.ren, hp]
def fc194 := (And.intro (And.intro (And.intro (And.intro sz3 ag3) (And.intro zv3 (And.intro un3 sz4))) (And.intro (And.intro ag4 zv4) (And.intro un4 (And.intro sz9 ag9)))) (And.intro (And.intro (And.intro zv9 un9) (And.intro sz38 (And.intro ag38 zv38))) (And.intro (And.intro sb38 un38) (And.intro el38 (And.intro ap38 okf228)))))
theorem heldStringS_of (xs : List ByteArray) (k : Int) (hk : 0 ≤ k ∧ k + (cnL (xs.flatMap eS) : Int) ≤ 2^60) : FnS Try.prog 194 [] [.c (.im (.sl xs.length (mkL mT k (xs.flatMap eS)))), iT k] [] (iT (k + (cnL (xs.flatMap eS) : Int))) := by
  refine FnS.go [0, 1, 4, 5, 9, 18] [] Try.func194 rfl (fun kt kz => ?_)
  have fcx := fc194
  simp only [Try.f194]
  have hx : xs.length ≤ 2^60 := by have := cnL_len (E := eS) (xs := xs); omega
  refine Run (cast_succ) ?_; repeat' (first | (with_reducible exact True.intro) | (with_reducible refine Lf.mk ?_ ?_) | (with_reducible intro hb))
  refine Trn (α := Nat) [1, 4, 5, 6, 7, 8, 9, 10, 11, 12, 13, 14, 15, 16, 17, 18, 19, 20] (fun i => [(5, iT i), (1, iT (k + (cnT eS xs i : Int)))]) (fun i => []) (fun i => i ≤ xs.length) (fun i => xs.length - i) (0) (Nat.zero_le _) ((And.intro (cnT_zero (E := eS) (xs := xs)) (And.intro @Int.ofNat_zero @Int.add_zero))) ?_; intro lx hI; obtain i := lx; (try simp only [List.nil_append, List.cons_append] at hI ⊢)
  by_cases hlt : lx < xs.length
  · have hp := pt_mk1 mT (E := eS) (k := k) hlt
    simp only [eS, slI, mkL_i, mkL_s, mkL_l, mkL_n, List.cons_append, List.nil_append] at hp
    have hc := cnT_le (E := eS) (xs := xs) (i := lx + 1)
    have ecn : cnT eS xs (lx + 1) = cnT eS xs lx + (1) := by rw [cnT_succ hlt]; (simp only [eS, slI, cnL_i, cnL_s, cnL_l, cnL_n]) <;> omega
    have e : k + (cnT eS xs lx : Int) + 1 = k + (cnT eS xs (lx + 1) : Int) := by omega
    refine Run ((And.intro @hp @hlt)) ?_; repeat' (first | (with_reducible exact True.intro) | (with_reducible refine Lf.mk ?_ ?_) | (with_reducible intro hb))
    refine Cal ((And.intro @hp @hlt)) (markText_ok (k + (cnT eS xs lx : Int)) (by omega)) ?_
    refine Run ((And.intro @hp @hlt)) ?_; repeat' (first | (with_reducible exact True.intro) | (with_reducible refine Lf.mk ?_ ?_) | (with_reducible intro hb))
    exact Nxt (@e) (lx + 1) (by omega) (by first | omega | (simp; omega))
  · have hge : xs.length ≤ lx := by omega
    have e1 := cnT_all (E := eS) hge
    refine Run ((And.intro @e1 @hlt)) ?_; repeat' (first | (with_reducible exact True.intro) | (with_reducible refine Lf.mk ?_ ?_) | (with_reducible intro hb))

theorem heldStringS_ok (xs : List ByteArray) (k : Int) (hk : 0 ≤ k ∧ k + (cnL (xs.flatMap eS) : Int) ≤ 2^60) : FnP Try.prog 194 [.c (.im (.sl xs.length (mkL mT k (xs.flatMap eS)))), iT k] (iT (k + (cnL (xs.flatMap eS) : Int))) := heldStringS_of xs k hk
def fc105 := (And.intro (And.intro (And.intro sz3 (And.intro ag3 zv3)) (And.intro (And.intro un3 sz4) (And.intro ag4 zv4))) (And.intro (And.intro (And.intro un4 sz153) (And.intro ag153 zv153)) (And.intro (And.intro sb153 un153) (And.intro el153 ap153))))
theorem markIntS_of (xs : List Int) (k : Int) (hk : 0 ≤ k ∧ k + (cnL (xs.flatMap eI) : Int) ≤ 2^60) : FnS Try.prog 105 [(1, .row xs.length (xs.flatMap eI))] [.c (.os 1 xs.length), iT k] [(1, .row xs.length (mkL mT k (xs.flatMap eI)))] (iT (k + (cnL (xs.flatMap eI) : Int))) := by
  refine FnS.go [0, 1, 4, 5, 9] [] Try.func105 rfl (fun kt kz => ?_)
  have fcx := fc105
  simp only [Try.f105]
  have hx : xs.length ≤ 2^60 := by have := cnL_len (E := eI) (xs := xs); omega
  refine Run (cast_succ) ?_; repeat' (first | (with_reducible exact True.intro) | (with_reducible refine Lf.mk ?_ ?_) | (with_reducible intro hb))
  refine Trn (α := Nat) [1, 5, 6, 7, 8, 9, 10, 11, 12, 13, 14, 15, 16, 17] (fun i => [(5, iT i), (1, iT (k + (cnT eI xs i : Int)))]) (fun i => [(1, .row xs.length (mkA mT eI k xs i ++ (xs.drop i).flatMap eI))]) (fun i => i ≤ xs.length) (fun i => xs.length - i) (0) (Nat.zero_le _) ((And.intro (And.intro (mkA_zero mT (E := eI) (k := k) (xs := xs)) (cnT_zero (E := eI) (xs := xs))) (And.intro (List.drop_zero (l := xs)) (And.intro @Int.ofNat_zero @Int.add_zero)))) ?_; intro lx hI; obtain i := lx; (try simp only [List.nil_append, List.cons_append] at hI ⊢)
  by_cases hlt : lx < xs.length
  · have hA : (mkA mT eI k xs lx).length = lx := by have := mkA_len mT (E := eI) (k := k) (Nat.le_of_lt hlt); omega
    have hd := drop_flat (E := eI) hlt
    simp only [eI] at hd
    have hc := cnT_le (E := eI) (xs := xs) (i := lx + 1)
    have ecn : cnT eI xs (lx + 1) = cnT eI xs lx + (1) := by rw [cnT_succ hlt]; (simp only [eI, slI, cnL_i, cnL_s, cnL_l, cnL_n]) <;> omega
    have e : k + (cnT eI xs lx : Int) + 1 = k + (cnT eI xs (lx + 1) : Int) := by omega
    have ec : mkA mT eI k xs lx ++ (.sc (.int .i64 (k + (cnT eI xs lx : Int))) :: (xs.drop (lx + 1)).flatMap eI) = mkA mT eI k xs (lx + 1) ++ (xs.drop (lx + 1)).flatMap eI := by rw [mkA_succ mT hlt]; simp only [eI, slI, mkL_i, mkL_s, mkL_l, mkL_n, List.append_assoc, List.cons_append, List.nil_append]
    refine Run ((And.intro (And.intro @hd (And.intro @hlt @ivl)) (And.intro (And.intro @iv0 @ivs) (And.intro @ownCells_get (mid_set0 hA))))) ?_; repeat' (first | (with_reducible exact True.intro) | (with_reducible refine Lf.mk ?_ ?_) | (with_reducible intro hb))
    exact Nxt ((And.intro @e @ec)) (lx + 1) (by omega) (by first | omega | (simp; omega))
  · have hge : xs.length ≤ lx := by omega
    have e1 := cnT_all (E := eI) hge
    have e2 := mkA_all mT (E := eI) (k := k) hge
    have e3 := drop_all (E := eI) hge
    refine Run ((And.intro (And.intro @e1 @e2) (And.intro @e3 @hlt))) ?_; repeat' (first | (with_reducible exact True.intro) | (with_reducible refine Lf.mk ?_ ?_) | (with_reducible intro hb))

theorem markIntS_ok (xs : List Int) (k : Int) (hk : 0 ≤ k ∧ k + (cnL (xs.flatMap eI) : Int) ≤ 2^60) : FnS Try.prog 105 [(1, .row xs.length (xs.flatMap eI))] [.c (.os 1 xs.length), iT k] [(1, .row xs.length (mkL mT k (xs.flatMap eI)))] (iT (k + (cnL (xs.flatMap eI) : Int))) := markIntS_of xs k hk
theorem markIntS_q (xs : List Int) (k : Int) (hk : 0 ≤ k ∧ k + (cnL (xs.flatMap eI) : Int) ≤ 2^60) (q : Nat) : FnS Try.prog 105 [(q, .row xs.length (xs.flatMap eI))] [.c (.os q xs.length), iT k] [(q, .row xs.length (mkL mT k (xs.flatMap eI)))] (iT (k + (cnL (xs.flatMap eI) : Int))) := by
  obtain ⟨p, hp⟩ := pm1 1 q
  refine ((markIntS_ok xs k hk).renA p).asA ?_ ?_ ?_ ?_ <;> simp [renS, Ob.ren, TV.ren, Cell.ren, hp]
def fc106 := (And.intro (And.intro (And.intro sz3 (And.intro ag3 zv3)) (And.intro (And.intro un3 sz4) (And.intro ag4 zv4))) (And.intro (And.intro (And.intro un4 sz153) (And.intro ag153 zv153)) (And.intro (And.intro sb153 un153) (And.intro el153 ap153))))
theorem heldIntS_of (xs : List Int) (k : Int) (hk : 0 ≤ k ∧ k + (cnL (xs.flatMap eI) : Int) ≤ 2^60) : FnS Try.prog 106 [] [.c (.im (.sl xs.length (mkL mT k (xs.flatMap eI)))), iT k] [] (iT (k + (cnL (xs.flatMap eI) : Int))) := by
  refine FnS.go [0, 1, 4, 5, 9, 17] [] Try.func106 rfl (fun kt kz => ?_)
  have fcx := fc106
  simp only [Try.f106]
  have hx : xs.length ≤ 2^60 := by have := cnL_len (E := eI) (xs := xs); omega
  refine Run (cast_succ) ?_; repeat' (first | (with_reducible exact True.intro) | (with_reducible refine Lf.mk ?_ ?_) | (with_reducible intro hb))
  refine Trn (α := Nat) [1, 4, 5, 6, 7, 8, 9, 10, 11, 12, 13, 14, 15, 16, 17, 18, 19] (fun i => [(5, iT i), (1, iT (k + (cnT eI xs i : Int)))]) (fun i => []) (fun i => i ≤ xs.length) (fun i => xs.length - i) (0) (Nat.zero_le _) ((And.intro (cnT_zero (E := eI) (xs := xs)) (And.intro @Int.ofNat_zero @Int.add_zero))) ?_; intro lx hI; obtain i := lx; (try simp only [List.nil_append, List.cons_append] at hI ⊢)
  by_cases hlt : lx < xs.length
  · have hp := pt_mk1 mT (E := eI) (k := k) hlt
    simp only [eI, slI, mkL_i, mkL_s, mkL_l, mkL_n, List.cons_append, List.nil_append] at hp
    have hc := cnT_le (E := eI) (xs := xs) (i := lx + 1)
    have ecn : cnT eI xs (lx + 1) = cnT eI xs lx + (1) := by rw [cnT_succ hlt]; (simp only [eI, slI, cnL_i, cnL_s, cnL_l, cnL_n]) <;> omega
    have e : k + (cnT eI xs lx : Int) + 1 = k + (cnT eI xs (lx + 1) : Int) := by omega
    refine Run ((And.intro @hp @hlt)) ?_; repeat' (first | (with_reducible exact True.intro) | (with_reducible refine Lf.mk ?_ ?_) | (with_reducible intro hb))
    exact Nxt (@e) (lx + 1) (by omega) (by first | omega | (simp; omega))
  · have hge : xs.length ≤ lx := by omega
    have e1 := cnT_all (E := eI) hge
    refine Run ((And.intro @e1 @hlt)) ?_; repeat' (first | (with_reducible exact True.intro) | (with_reducible refine Lf.mk ?_ ?_) | (with_reducible intro hb))

theorem heldIntS_ok (xs : List Int) (k : Int) (hk : 0 ≤ k ∧ k + (cnL (xs.flatMap eI) : Int) ≤ 2^60) : FnP Try.prog 106 [.c (.im (.sl xs.length (mkL mT k (xs.flatMap eI)))), iT k] (iT (k + (cnL (xs.flatMap eI) : Int))) := heldIntS_of xs k hk

end Go.VC.T
