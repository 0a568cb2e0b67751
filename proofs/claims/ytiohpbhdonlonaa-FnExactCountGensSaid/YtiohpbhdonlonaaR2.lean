/- How data are read: heads, comprehensions, queries, flat queries. -/
import Derived.Test.YtiohpbhdonlonaaR1
import Derived.Test.YtiohpbhdonlonaaD7
namespace Go.VC.T
open Go Go.VC Go.VC.F Go.Proofs
set_option linter.unusedSimpArgs false
set_option linter.unusedVariables false
theorem rdGen (m : Nat) : Rd Try.prog 364 m eGn (okGn (2^48)) := by
  cases m with
  | zero => exact .zero
  | succ m =>
    exact (rd_struct st364 co364 (rdL_cons (off' := 1) (by rw [co9]) (rdStr un9) (rdL_cons (off' := 2) (by rw [co9]) (rdStr un9) rdL_nil))).map (fun p => ⟨ p.1, p.2.1⟩) (fun p _ => by rw [eGn_eta]; simp [eGn_eta, Gn.var, Gn.table, slI, eS]) fun p h => okGn_iff.2 ⟨h.1, h.2.1⟩
theorem rdFlatComp (m : Nat) : Rd Try.prog 283 m eFC (okFC (2^48)) := by
  cases m with
  | zero => exact .zero
  | succ m =>
    exact (rd_struct st283 co283 (rdL_cons (off' := 1) (by rw [co3]) (rdI un3) (rdL_cons (off' := 2) (by rw [co3]) (rdI un3) (rdL_cons (off' := 3) (by rw [co3]) (rdI un3) (rdL_cons (off' := 4) (by rw [co281]) (rdS un281 co364 by364 (by decide) (fun k hk => rdGen k)) (rdL_cons (off' := 12) (by rw [co67]) (rdTerm m) (rdL_cons (off' := 13) (by rw [co65]) (rdS un65 co67 by67 (by decide) (fun k hk => rdTerm k)) rdL_nil))))))).map (fun p => ⟨ p.1, p.2.1, p.2.2.1, p.2.2.2.1, p.2.2.2.2.1, p.2.2.2.2.2.1⟩) (fun p _ => by rw [eFC_eta]; simp [eTy_eta, eTm_eta, eFC_eta, FC.outer, FC.outerGens, FC.tag, FC.gens, FC.wh, FC.cols, slI, eS]) fun p h => okFC_iff.2 ⟨h.1, h.2.1, h.2.2.1, h.2.2.2.1, h.2.2.2.2.1, h.2.2.2.2.2.1⟩
theorem rdFlatQuery (m : Nat) : Rd Try.prog 90 m eFQ (okFQ (2^48)) := by
  cases m with
  | zero => exact .zero
  | succ m =>
    exact (rd_struct st90 co90 (rdL_cons (off' := 1) (by rw [co38]) (rdS un38 co9 by9 (by decide) (fun k _ => rdStr un9)) (rdL_cons (off' := 2) (by rw [co88]) (rdS un88 co283 by283 (by decide) (fun k hk => rdFlatComp k)) rdL_nil))).map (fun p => ⟨ p.1, p.2.1⟩) (fun p _ => by rw [eFQ_eta]; simp [eFQ_eta, FQ.path, FQ.comps, slI, eS]) fun p h => okFQ_iff.2 ⟨h.1, h.2.1⟩
end Go.VC.T
