/- Marks as texts; rows of texts and numbers that are marked. -/
import Derived.Test.YtiohpbhdonlonaaA2
import Derived.Test.YtiohpbhdonlonaaD8
namespace Go.VC
/-- The digits of a number, ahead of a text. -/
def dgt (k : Nat) (out : ByteArray) : ByteArray := if _h : k = 0 then out else dgt (k / 10) (byStr [((48 + k % 10 : Nat) : Int)] ++ out)
termination_by k
decreasing_by omega
theorem dgt_zero {out : ByteArray} : dgt 0 out = out := by rw [dgt]; simp
theorem dgt_pos {k : Nat} {out : ByteArray} (h : 0 < k) : dgt k out = dgt (k / 10) (byStr [((48 + k % 10 : Nat) : Int)] ++ out) := by
  conv => lhs; rw [dgt]
  rw [dif_neg (by omega)]
def mT (k : Int) : ByteArray := if k ≤ 0 then ⟨#[109, 48]⟩ else ⟨#[109]⟩ ++ dgt k.toNat ⟨#[]⟩
end Go.VC
namespace Go.VC.T
open Go Go.VC Go.Proofs Go.VC.F
set_option linter.unusedSimpArgs false
set_option linter.unusedVariables false
set_option linter.defProp false
set_option maxRecDepth 100000
set_option maxHeartbeats 2000000
theorem dg_wrap (m : Nat) : IntKind.u8.wrap (IntKind.i64.wrap (48 + (m : Int).tmod 10)) = ((48 + m % 10 : Nat) : Int) := by
  have h : (m : Int).tmod 10 = ((m % 10 : Nat) : Int) := by rw [Int.tmod_eq_emod_of_nonneg (by omega)]; omega
  rw [h, wrap64 (by omega)]
  simp [IntKind.wrap, IntKind.signed, IntKind.bits]
  omega
theorem dg_div (m : Nat) : (m : Int).tdiv 10 = ((m / 10 : Nat) : Int) := by
  rw [Int.tdiv_eq_ediv_of_nonneg (by omega)]; omega
def fc228 := (And.intro (And.intro (And.intro (And.intro sz3 ag3) (And.intro zv3 (And.intro un3 sz4))) (And.intro (And.intro ag4 (And.intro zv4 un4)) (And.intro sz5 (And.intro ag5 zv5)))) (And.intro (And.intro (And.intro un5 (And.intro sz9 ag9)) (And.intro zv9 (And.intro un9 sz341))) (And.intro (And.intro ag341 (And.intro zv341 sb341)) (And.intro un341 (And.intro el341 ap341)))))
theorem markText_ok (k : Int) (hk : k ≤ 2^62) : FnS Try.prog 228 [] [iT k] [] (sT (mT k)) := by
  refine FnS.go [0, 2, 3, 5, 7] [] Try.func228 rfl (fun kt kz => ?_)
  have fcx := fc228
  simp only [Try.f228]
  refine Run (cast_succ) ?_; repeat' (first | (with_reducible exact True.intro) | (with_reducible refine Lf.mk ?_ ?_) | (with_reducible intro hb))
  · simp only [mT, if_pos hb]
  refine Trn (α := Nat × ByteArray) [0, 3, 6, 7, 8, 9, 10, 11, 12, 13, 14, 15, 16, 17] (fun ⟨m, o⟩ => [(0, iT (m : Int)), (3, sT o)]) (fun ⟨m, o⟩ => []) (fun ⟨m, o⟩ => (m : Int) ≤ 2^62 ∧ dgt m o = dgt k.toNat ⟨#[]⟩ ∧ o.size + m ≤ k.toNat) (fun ⟨m, o⟩ => m) ((k.toNat, ⟨#[]⟩)) (⟨by omega, rfl, by show 0 + k.toNat ≤ k.toNat; omega⟩) ((show ((k.toNat : Nat) : Int) = k by omega)) ?_; intro lx hI; obtain ⟨m, o⟩ := lx; (try simp only [List.nil_append, List.cons_append] at hI ⊢)
  have hk2 : (k.toNat : Int) ≤ 2^62 := by omega
  refine Run ((And.intro (dg_wrap m) (And.intro (dg_div m) (show (ByteArray.mk #[109]).size = 1 from rfl)))) ?_; repeat' (first | (with_reducible exact True.intro) | (with_reducible refine Lf.mk ?_ ?_) | (with_reducible intro hb))
  · exact Nxt (cast_succ) ((m / 10, byStr [((48 + m % 10 : Nat) : Int)] ++ o)) (⟨by omega, by rw [← dgt_pos (by omega)]; exact hI.2.1, by rw [ByteArray.size_append, byStr_size]; simp only [List.length_cons, List.length_nil]; omega⟩) (by first | omega | (simp; omega))
  · have hm : m = 0 := by omega
    subst hm
    have hd := hI.2.1
    rw [dgt_zero] at hd
    simp only [mT, if_neg (show ¬ k ≤ 0 by omega), hd]

end Go.VC.T
