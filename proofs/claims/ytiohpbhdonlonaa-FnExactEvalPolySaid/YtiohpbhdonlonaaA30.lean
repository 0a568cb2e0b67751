/- Polynomials of a token, of a number. -/
import Derived.Test.YtiohpbhdonlonaaSPoly
import Derived.Test.YtiohpbhdonlonaaMPoly
namespace Go.VC
def tokP (s : ByteArray) : List Mono := if s = ⟨#[]⟩ then [] else [⟨1, [s]⟩]
def numP (n : Int) : List Mono := if n < 1 ∨ 1000000 < n then [] else [⟨n, []⟩]
end Go.VC
namespace Go.VC.T
open Go Go.VC Go.Proofs Go.VC.F
set_option linter.unusedSimpArgs false
set_option linter.unusedVariables false
set_option linter.defProp false
set_option maxRecDepth 100000
set_option maxHeartbeats 2000000
def fc20 := (And.intro (And.intro (And.intro (And.intro (And.intro sz4 ag4) (And.intro zv4 un4)) (And.intro (And.intro sz9 ag9) (And.intro zv9 un9))) (And.intro (And.intro (And.intro sz22 ag22) (And.intro zv22 sb22)) (And.intro (And.intro un22 el22) (And.intro ap22 (And.intro sz24 ag24))))) (And.intro (And.intro (And.intro (And.intro zv24 fl24_0) (And.intro pl24 sz38)) (And.intro (And.intro ag38 zv38) (And.intro sb38 un38))) (And.intro (And.intro (And.intro el38 ap38) (And.intro sz149 ag149)) (And.intro (And.intro zv149 fl149_0) (And.intro fl149_1 (And.intro pl149 sz3))))))
theorem specTokenPoly_a (s : ByteArray) (hs : s = ⟨#[]⟩) : FnS Try.prog 20 [] [sT s] [] (.ag [.nl]) := by
  refine FnS.go [0, 2, 4] [] Try.func20 rfl (fun kt kz => ?_)
  have fcx := fc20
  simp only [Try.f20]
  refine Run (@hs) ?_; repeat' (first | (with_reducible exact True.intro) | (with_reducible refine Lf.mk ?_ ?_) | (with_reducible intro hb))
theorem specTokenPoly_b (s : ByteArray) (hs : ¬ s = ⟨#[]⟩) : FnS Try.prog 20 [] [sT s] [(18, .vec 149 2 1 [.sc (.int .i64 1), .sl 1 [.sc (.string s)]] true)] (.ag [.os 18 1]) := by
  refine FnS.go [0, 2, 4] [] Try.func20 rfl (fun kt kz => ?_)
  have fcx := fc20
  simp only [Try.f20]
  refine Run (@hs) ?_; repeat' (first | (with_reducible exact True.intro) | (with_reducible refine Lf.mk ?_ ?_) | (with_reducible intro hb))
def fc21 := (And.intro (And.intro (And.intro (And.intro (And.intro sz4 ag4) (And.intro zv4 un4)) (And.intro (And.intro sz9 ag9) (And.intro zv9 un9))) (And.intro (And.intro (And.intro sz22 ag22) (And.intro zv22 sb22)) (And.intro (And.intro un22 el22) (And.intro ap22 (And.intro sz24 ag24))))) (And.intro (And.intro (And.intro (And.intro zv24 fl24_0) (And.intro pl24 sz38)) (And.intro (And.intro ag38 zv38) (And.intro sb38 un38))) (And.intro (And.intro (And.intro el38 ap38) (And.intro sz149 ag149)) (And.intro (And.intro zv149 fl149_0) (And.intro fl149_1 (And.intro pl149 sz3))))))
theorem implTokenPoly_a (s : ByteArray) (hs : s = ⟨#[]⟩) : FnS Try.prog 21 [] [sT s] [] (.ag [.nl]) := by
  refine FnS.go [0, 2, 4] [] Try.func21 rfl (fun kt kz => ?_)
  have fcx := fc21
  simp only [Try.f21]
  refine Run (@hs) ?_; repeat' (first | (with_reducible exact True.intro) | (with_reducible refine Lf.mk ?_ ?_) | (with_reducible intro hb))
theorem implTokenPoly_b (s : ByteArray) (hs : ¬ s = ⟨#[]⟩) : FnS Try.prog 21 [] [sT s] [(18, .vec 149 2 1 [.sc (.int .i64 1), .sl 1 [.sc (.string s)]] true)] (.ag [.os 18 1]) := by
  refine FnS.go [0, 2, 4] [] Try.func21 rfl (fun kt kz => ?_)
  have fcx := fc21
  simp only [Try.f21]
  refine Run (@hs) ?_; repeat' (first | (with_reducible exact True.intro) | (with_reducible refine Lf.mk ?_ ?_) | (with_reducible intro hb))
def fc98 := (And.intro (And.intro (And.intro sz3 ag3) (And.intro zv3 un3)) (And.intro (And.intro sz4 ag4) (And.intro zv4 un4)))
theorem l1In_ok (x lo hi : Int) : FnS Try.prog 98 [] [iT x, iT lo, iT hi] [] (bT (decide (lo ≤ x ∧ x ≤ hi))) := by
  refine FnS.go [0, 1, 2, 6] [] Try.func98 rfl (fun kt kz => ?_)
  have fcx := fc98
  simp only [Try.f98]
  by_cases h1 : lo ≤ x
  · have e : decide (lo ≤ x ∧ x ≤ hi) = decide (x ≤ hi) := decide_eq_decide.2 (by omega)
    refine Run ((And.intro @h1 @e)) ?_; repeat' (first | (with_reducible exact True.intro) | (with_reducible refine Lf.mk ?_ ?_) | (with_reducible intro hb))
  · have e : decide (False ∧ x ≤ hi) = false := decide_eq_false (fun h => h.1)
    refine Run ((And.intro @h1 @e)) ?_; repeat' (first | (with_reducible exact True.intro) | (with_reducible refine Lf.mk ?_ ?_) | (with_reducible intro hb))
def fc25 := (And.intro (And.intro (And.intro (And.intro sz3 (And.intro ag3 zv3)) (And.intro (And.intro un3 sz4) (And.intro ag4 zv4))) (And.intro (And.intro un4 (And.intro sz22 ag22)) (And.intro (And.intro zv22 sb22) (And.intro un22 el22)))) (And.intro (And.intro (And.intro ap22 (And.intro sz24 ag24)) (And.intro (And.intro zv24 fl24_0) (And.intro pl24 sz149))) (And.intro (And.intro ag149 (And.intro zv149 fl149_0)) (And.intro (And.intro fl149_1 pl149) (And.intro okf98 sz38)))))
theorem specNumberPoly_a (n : Int) (h : ¬ (1 ≤ n ∧ n ≤ 1000000)) : FnS Try.prog 25 [] [iT n] [] (.ag [.nl]) := by
  refine FnS.go [0, 2, 5] [] Try.func25 rfl (fun kt kz => ?_)
  have fcx := fc25
  simp only [Try.f25]
  refine Run (cast_succ) ?_; repeat' (first | (with_reducible exact True.intro) | (with_reducible refine Lf.mk ?_ ?_) | (with_reducible intro hb))
  refine Cal (cast_succ) (l1In_ok n 1 1000000) ?_
  refine Run (@h) ?_; repeat' (first | (with_reducible exact True.intro) | (with_reducible refine Lf.mk ?_ ?_) | (with_reducible intro hb))
theorem specNumberPoly_b (n : Int) (h : 1 ≤ n ∧ n ≤ 1000000) : FnS Try.prog 25 [] [iT n] [(18, .vec 149 2 1 [.sc (.int .i64 n), .sl 0 []] true)] (.ag [.os 18 1]) := by
  refine FnS.go [0, 2, 5] [] Try.func25 rfl (fun kt kz => ?_)
  have fcx := fc25
  simp only [Try.f25]
  refine Run (cast_succ) ?_; repeat' (first | (with_reducible exact True.intro) | (with_reducible refine Lf.mk ?_ ?_) | (with_reducible intro hb))
  refine Cal (cast_succ) (l1In_ok n 1 1000000) ?_
  refine Run (@h) ?_; repeat' (first | (with_reducible exact True.intro) | (with_reducible refine Lf.mk ?_ ?_) | (with_reducible intro hb))
def fc26 := (And.intro (And.intro (And.intro (And.intro sz3 (And.intro ag3 zv3)) (And.intro un3 (And.intro sz4 ag4))) (And.intro (And.intro zv4 (And.intro un4 sz22)) (And.intro (And.intro ag22 zv22) (And.intro sb22 un22)))) (And.intro (And.intro (And.intro el22 (And.intro ap22 sz24)) (And.intro (And.intro ag24 zv24) (And.intro fl24_0 pl24))) (And.intro (And.intro sz149 (And.intro ag149 zv149)) (And.intro (And.intro fl149_0 fl149_1) (And.intro pl149 sz38)))))
theorem implNumberPoly_a (n : Int) (h : ¬ (1 ≤ n ∧ n ≤ 1000000)) : FnS Try.prog 26 [] [iT n] [] (.ag [.nl]) := by
  refine FnS.go [0, 2, 8] [] Try.func26 rfl (fun kt kz => ?_)
  have fcx := fc26
  simp only [Try.f26]
  by_cases h1 : n < 1
  · refine Run (@h1) ?_; repeat' (first | (with_reducible exact True.intro) | (with_reducible refine Lf.mk ?_ ?_) | (with_reducible intro hb))
  · have h2 : 1000000 < n := by omega
    refine Run ((And.intro @h1 @h2)) ?_; repeat' (first | (with_reducible exact True.intro) | (with_reducible refine Lf.mk ?_ ?_) | (with_reducible intro hb))
theorem implNumberPoly_b (n : Int) (h : 1 ≤ n ∧ n ≤ 1000000) : FnS Try.prog 26 [] [iT n] [(24, .vec 149 2 1 [.sc (.int .i64 n), .sl 0 []] true)] (.ag [.os 24 1]) := by
  refine FnS.go [0, 2, 8] [] Try.func26 rfl (fun kt kz => ?_)
  have fcx := fc26
  simp only [Try.f26]
  have h1 : ¬ n < 1 := by omega
  have h2 : ¬ 1000000 < n := by omega
  refine Run ((And.intro @h1 @h2)) ?_; repeat' (first | (with_reducible exact True.intro) | (with_reducible refine Lf.mk ?_ ?_) | (with_reducible intro hb))

theorem specTokenPoly_ok (s : ByteArray) : FnP Try.prog 20 [sT s] (agT (ePoly (tokP s))) := by
  by_cases hs : s = ⟨#[]⟩
  · rw [show tokP s = [] from if_pos hs]
    exact (specTokenPoly_a s hs).tree rfl
  · rw [show tokP s = [⟨1, [s]⟩] from if_neg hs]
    exact (specTokenPoly_b s hs).tree rfl
theorem implTokenPoly_q (s : ByteArray) (q : Nat) : FnS Try.prog 21 [] [sT s] [(q, .row (tokP s).length ((tokP s).flatMap eMono))] (.ag [.os q (tokP s).length]) := by
  by_cases hs : s = ⟨#[]⟩
  · rw [show tokP s = [] from if_pos hs]
    exact (implTokenPoly_a s hs).nl 0 q rfl rfl rfl rfl rfl
  · rw [show tokP s = [⟨1, [s]⟩] from if_neg hs]
    obtain ⟨p, hp⟩ := pm1 18 q
    refine ((implTokenPoly_b s hs).rows.pm p).as ?_ ?_ <;> simp [rowS, rowO, renS, Ob.ren, TV.ren, renL, Cell.ren, hp, eMono, slI, eS]
theorem specNumberPoly_ok (n : Int) : FnP Try.prog 25 [iT n] (agT (ePoly (numP n))) := by
  by_cases hs : 1 ≤ n ∧ n ≤ 1000000
  · rw [show numP n = [⟨n, []⟩] from if_neg (by omega)]
    exact (specNumberPoly_b n hs).tree rfl
  · rw [show numP n = [] from if_pos (by omega)]
    exact (specNumberPoly_a n hs).tree rfl
theorem implNumberPoly_q (n : Int) (q : Nat) : FnS Try.prog 26 [] [iT n] [(q, .row (numP n).length ((numP n).flatMap eMono))] (.ag [.os q (numP n).length]) := by
  by_cases hs : 1 ≤ n ∧ n ≤ 1000000
  · rw [show numP n = [⟨n, []⟩] from if_neg (by omega)]
    obtain ⟨p, hp⟩ := pm1 24 q
    refine ((implNumberPoly_b n hs).rows.pm p).as ?_ ?_ <;> simp [rowS, rowO, renS, Ob.ren, TV.ren, renL, Cell.ren, hp, eMono, slI, eS]
  · rw [show numP n = [] from if_pos (by omega)]
    exact (implNumberPoly_a n hs).nl 0 q rfl rfl rfl rfl rfl
theorem tokP_ok (s : ByteArray) (h : s.size ≤ 2^20) : okPoly (2^20) (tokP s) ∧ cnL ((tokP s).flatMap eMono) ≤ 2 := by
  rw [okPoly_iff]
  unfold tokP
  split
  · exact ⟨⟨by simp, by simp⟩, by simp [cnL]⟩
  · refine ⟨⟨by simp, fun m hm => ?_⟩, ?_⟩
    · obtain rfl : m = ⟨1, [s]⟩ := by simpa using hm
      rw [okMono_iff]
      exact ⟨(by show ok64 1; exact ⟨by omega, by omega⟩), by simp, by simpa [okS] using h⟩
    · simp [eMono, slI, eS, cnL_i, cnL_l, cnL_s, cnL_n]
theorem numP_ok (n : Int) : okPoly (2^20) (numP n) ∧ cnL ((numP n).flatMap eMono) ≤ 2 := by
  rw [okPoly_iff]
  unfold numP
  split
  · exact ⟨⟨by simp, by simp⟩, by simp [cnL]⟩
  · rename_i h
    refine ⟨⟨by simp, fun m hm => ?_⟩, ?_⟩
    · obtain rfl : m = ⟨n, []⟩ := by simpa using hm
      rw [okMono_iff]
      exact ⟨(by show ok64 n; exact ⟨by omega, by omega⟩), by simp, by simp⟩
    · simp [eMono, slI, cnL_i, cnL_l, cnL_n]
def fc3 := (And.intro (And.intro (And.intro (And.intro sz3 ag3) (And.intro zv3 (And.intro un3 sz4))) (And.intro (And.intro ag4 (And.intro zv4 un4)) (And.intro sz9 (And.intro ag9 zv9)))) (And.intro (And.intro (And.intro un9 (And.intro sz24 ag24)) (And.intro zv24 (And.intro fl24_0 pl24))) (And.intro (And.intro okf20 (And.intro okf21 okf22)) (And.intro okf23 (And.intro okf24 sz22)))))
theorem tokenPoly_law (s : ByteArray) (h : okS (2^48) s) : FnS Try.prog 3 [] [sT s] [] (bT true) := by
  refine FnS.go [0, 2, 3, 4, 5, 6, 7, 10, 18, 26, 29, 35, 40, 43] [] Try.func3 rfl (fun kt kz => ?_)
  have fcx := fc3
  simp only [Try.f3]
  have hz : s.size ≤ 2^48 := h
  refine Run (cast_succ) ?_; repeat' (first | (with_reducible exact True.intro) | (with_reducible refine Lf.mk ?_ ?_) | (with_reducible intro hb))
  obtain ⟨h1, h2⟩ := tokP_ok s (by omega)
  refine CalI (@ePoly_eta) (specTokenPoly_ok s) ?_
  refine Run (@ePoly_eta) ?_; repeat' (first | (with_reducible exact True.intro) | (with_reducible refine Lf.mk ?_ ?_) | (with_reducible intro hb))
  refine Cal (@ePoly_eta) (implTokenPoly_q s 2000) ?_
  refine Run (@ePoly_eta) ?_; repeat' (first | (with_reducible exact True.intro) | (with_reducible refine Lf.mk ?_ ?_) | (with_reducible intro hb))
  refine Cal (@ePoly_eta) (eqPoly_ok (tokP s) h1) ?_
  refine Run (@ePoly_eta) ?_; repeat' (first | (with_reducible exact True.intro) | (with_reducible refine Lf.mk ?_ ?_) | (with_reducible intro hb))
  refine CalO (cast_succ) (markPoly_q (tokP s) 1 ⟨by omega, by omega⟩ 2000 (by simp)) ?_
  refine Run (@ePoly_eta) ?_; repeat' (first | (with_reducible exact True.intro) | (with_reducible refine Lf.mk ?_ ?_) | (with_reducible intro hb))
  refine Cal (@hPoly.eq_1) (heldPoly_ok (tokP s) 1 ⟨by omega, by omega⟩) ?_
  have hn : ((1 + (cnL ((tokP s).flatMap eMono) : Int)) < 0) = False := eq_false (by omega)
  refine Run ((And.intro @ePoly_eta @hn)) ?_; repeat' (first | (with_reducible exact True.intro) | (with_reducible refine Lf.mk ?_ ?_) | (with_reducible intro hb))
  refine Cal (@ePoly_eta) (implTokenPoly_q s 2002) ?_
  refine Run (@ePoly_eta) ?_; repeat' (first | (with_reducible exact True.intro) | (with_reducible refine Lf.mk ?_ ?_) | (with_reducible intro hb))
  refine Cal (@ePoly_eta) (eqPoly_ok (tokP s) h1) ?_
  refine Run (@ePoly_eta) ?_; repeat' (first | (with_reducible exact True.intro) | (with_reducible refine Lf.mk ?_ ?_) | (with_reducible intro hb))
  refine Cal (@hPoly.eq_1) (heldPoly_ok (tokP s) 1 ⟨by omega, by omega⟩) ?_
  refine Run ((And.intro @ePoly_eta @hn)) ?_; repeat' (first | (with_reducible exact True.intro) | (with_reducible refine Lf.mk ?_ ?_) | (with_reducible intro hb))
def fc4 := (And.intro (And.intro (And.intro (And.intro sz3 ag3) (And.intro zv3 un3)) (And.intro (And.intro sz4 ag4) (And.intro zv4 (And.intro un4 sz24)))) (And.intro (And.intro (And.intro ag24 zv24) (And.intro fl24_0 (And.intro pl24 okf22))) (And.intro (And.intro okf23 okf24) (And.intro okf25 (And.intro okf26 sz22)))))
theorem numberPoly_law (s : Int) (h : ok64 s) : FnS Try.prog 4 [] [iT s] [] (bT true) := by
  refine FnS.go [0, 2, 3, 4, 5, 6, 7, 15, 23, 26, 32, 37, 40] [] Try.func4 rfl (fun kt kz => ?_)
  have fcx := fc4
  simp only [Try.f4]
  refine Run (cast_succ) ?_; repeat' (first | (with_reducible exact True.intro) | (with_reducible refine Lf.mk ?_ ?_) | (with_reducible intro hb))
  obtain ⟨h1, h2⟩ := numP_ok s
  refine CalI (@ePoly_eta) (specNumberPoly_ok s) ?_
  refine Run (@ePoly_eta) ?_; repeat' (first | (with_reducible exact True.intro) | (with_reducible refine Lf.mk ?_ ?_) | (with_reducible intro hb))
  refine Cal (@ePoly_eta) (implNumberPoly_q s 2000) ?_
  refine Run (@ePoly_eta) ?_; repeat' (first | (with_reducible exact True.intro) | (with_reducible refine Lf.mk ?_ ?_) | (with_reducible intro hb))
  refine Cal (@ePoly_eta) (eqPoly_ok (numP s) h1) ?_
  refine Run (@ePoly_eta) ?_; repeat' (first | (with_reducible exact True.intro) | (with_reducible refine Lf.mk ?_ ?_) | (with_reducible intro hb))
  refine CalO (cast_succ) (markPoly_q (numP s) 1 ⟨by omega, by omega⟩ 2000 (by simp)) ?_
  refine Run (@ePoly_eta) ?_; repeat' (first | (with_reducible exact True.intro) | (with_reducible refine Lf.mk ?_ ?_) | (with_reducible intro hb))
  refine Cal (@hPoly.eq_1) (heldPoly_ok (numP s) 1 ⟨by omega, by omega⟩) ?_
  have hn : ((1 + (cnL ((numP s).flatMap eMono) : Int)) < 0) = False := eq_false (by omega)
  refine Run ((And.intro @ePoly_eta @hn)) ?_; repeat' (first | (with_reducible exact True.intro) | (with_reducible refine Lf.mk ?_ ?_) | (with_reducible intro hb))
  refine Cal (@ePoly_eta) (implNumberPoly_q s 2002) ?_
  refine Run (@ePoly_eta) ?_; repeat' (first | (with_reducible exact True.intro) | (with_reducible refine Lf.mk ?_ ?_) | (with_reducible intro hb))
  refine Cal (@ePoly_eta) (eqPoly_ok (numP s) h1) ?_
  refine Run (@ePoly_eta) ?_; repeat' (first | (with_reducible exact True.intro) | (with_reducible refine Lf.mk ?_ ?_) | (with_reducible intro hb))
  refine Cal (@hPoly.eq_1) (heldPoly_ok (numP s) 1 ⟨by omega, by omega⟩) ?_
  refine Run ((And.intro @ePoly_eta @hn)) ?_; repeat' (first | (with_reducible exact True.intro) | (with_reducible refine Lf.mk ?_ ?_) | (with_reducible intro hb))

end Go.VC.T
