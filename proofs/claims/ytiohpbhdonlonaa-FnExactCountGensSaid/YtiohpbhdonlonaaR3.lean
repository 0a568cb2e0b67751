/- How data are read: heads, comprehensions, queries. -/
import Derived.Test.YtiohpbhdonlonaaR2
import Derived.Test.YtiohpbhdonlonaaD7
namespace Go.VC.T
open Go Go.VC Go.VC.F Go.Proofs
set_option linter.unusedSimpArgs false
set_option linter.unusedVariables false
theorem rdHCQ (m : Nat) : Rd Try.prog 295 m eHd (okHd (2^48)) ∧ Rd Try.prog 297 m eCmp (okCmp (2^48)) ∧ Rd Try.prog 108 m eQr (okQr (2^48)) := by
  induction m using Nat.strongRecOn with
  | _ m ih =>
    cases m with
    | zero => exact ⟨.zero, .zero, .zero⟩
    | succ m =>
      exact ⟨(rd_struct st295 co295 (rdL_cons (off' := 1) (by rw [co3]) (rdI un3) (rdL_cons (off' := 9) (by rw [co67]) (rdTerm m) (rdL_cons (off' := 10) (by rw [co38]) (rdS un38 co9 by9 (by decide) (fun k _ => rdStr un9)) (rdL_cons (off' := 11) (by rw [co293]) (rdS un293 co295 by295 (by decide) (fun k hk => (ih k (by omega)).1)) (rdL_cons (off' := 12) (by rw [co108]) (ih m (by omega)).2.2 rdL_nil)))))).map (fun p => Hd.mk (p.1) (p.2.1) (p.2.2.1) (p.2.2.2.1) (p.2.2.2.2.1)) (fun p _ => by simp [eHd_eta, eTm_eta, eTy_eta, eQr_eta, Hd.kind, Hd.term, Hd.labels, Hd.parts, Hd.query, slI]) fun p h => okHd_iff'.2 ⟨h.1, h.2.1, h.2.2.1, h.2.2.2.1, h.2.2.2.2.1⟩,
        (rd_struct st297 co297 (rdL_cons (off' := 1) (by rw [co281]) (rdS un281 co364 by364 (by decide) (fun k hk => rdGen k)) (rdL_cons (off' := 9) (by rw [co67]) (rdTerm m) (rdL_cons (off' := 21) (by rw [co295]) (ih m (by omega)).1 rdL_nil)))).map (fun p => Cmp.mk (p.1) (p.2.1) (p.2.2.1)) (fun p _ => by simp [eCmp_eta, eHd_eta, eTm_eta, eTy_eta, eQr_eta, Cmp.gens, Cmp.wh, Cmp.head, slI]) fun p h => okCmp_iff.2 ⟨h.1, h.2.1, h.2.2.1⟩,
        (rd_struct st108 co108 (rdL_cons (off' := 1) (by rw [co106]) (rdS un106 co297 by297 (by decide) (fun k hk => (ih k (by omega)).2.1)) rdL_nil)).map (fun p => p.1) (fun p _ => by simp [eQr_eta, slI]) fun p h => okQr_iff.2 h.1⟩
theorem rdQuery (m : Nat) : Rd Try.prog 108 m eQr (okQr (2^48)) := (rdHCQ m).2.2
end Go.VC.T
