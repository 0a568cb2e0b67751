/- How data are read. -/
import Derived.Test.YtiohpbhdonlonaaF
import Derived.Test.YtiohpbhdonlonaaD4
namespace Go.VC.T
open Go Go.VC Go.VC.F Go.Proofs
set_option linter.unusedSimpArgs false
set_option linter.unusedVariables false
theorem rdType (m : Nat) : Rd Try.prog 64 m eTy (okTy (2^48)) := by
  induction m using Nat.strongRecOn with
  | _ m ih =>
    cases m with
    | zero => exact .zero
    | succ m =>
      exact (rd_struct st64 co64 (rdL_cons (off' := 1) (by rw [co3]) (rdI un3) (rdL_cons (off' := 2) (by rw [co38]) (rdS un38 co9 by9 (by decide) (fun k _ => rdStr un9)) (rdL_cons (off' := 3) (by rw [co62]) (rdS un62 co64 by64 (by decide) (fun k hk => ih k (by omega))) rdL_nil)))).map (fun p => Ty.mk p.1 p.2.1 p.2.2.1) (fun p _ => by rw [eTy_eta]; simp [eTy_eta, Ty.kind, Ty.labels, Ty.args, slI, eS]) fun p h => okTy_iff.2 ⟨h.1, h.2.1, h.2.2.1⟩
theorem rdValue (m : Nat) : Rd Try.prog 183 m eVal (okVal (2^48)) := by
  induction m using Nat.strongRecOn with
  | _ m ih =>
    cases m with
    | zero => exact .zero
    | succ m =>
      exact (rd_struct st183 co183 (rdL_cons (off' := 1) (by rw [co3]) (rdI un3) (rdL_cons (off' := 2) (by rw [co3]) (rdI un3) (rdL_cons (off' := 3) (by rw [co38]) (rdS un38 co9 by9 (by decide) (fun k _ => rdStr un9)) (rdL_cons (off' := 4) (by rw [co181]) (rdS un181 co183 by183 (by decide) (fun k hk => ih k (by omega))) rdL_nil))))).map (fun p => Val.mk p.1 p.2.1 p.2.2.1 p.2.2.2.1) (fun p _ => by rw [eVal_eta]; simp [eVal_eta, Val.kind, Val.n, Val.labels, Val.args, slI, eS]) fun p h => okVal_iff.2 ⟨h.1, h.2.1, h.2.2.1, h.2.2.2.1⟩
theorem rdTerm (m : Nat) : Rd Try.prog 67 m eTm (okTm (2^48)) := by
  induction m using Nat.strongRecOn with
  | _ m ih =>
    cases m with
    | zero => exact .zero
    | succ m =>
      exact (rd_struct st67 co67 (rdL_cons (off' := 1) (by rw [co3]) (rdI un3) (rdL_cons (off' := 2) (by rw [co9]) (rdStr un9) (rdL_cons (off' := 3) (by rw [co3]) (rdI un3) (rdL_cons (off' := 6) (by rw [co64]) (rdType m) (rdL_cons (off' := 7) (by rw [co38]) (rdS un38 co9 by9 (by decide) (fun k _ => rdStr un9)) (rdL_cons (off' := 8) (by rw [co65]) (rdS un65 co67 by67 (by decide) (fun k hk => ih k (by omega))) rdL_nil))))))).map (fun p => Tm.mk p.1 p.2.1 p.2.2.1 p.2.2.2.1 p.2.2.2.2.1 p.2.2.2.2.2.1) (fun p _ => by rw [eTm_eta]; simp [eTm_eta, eTy_eta, Tm.kind, Tm.name, Tm.n, Tm.ty, Tm.labels, Tm.args, slI, eS]) fun p h => okTm_iff.2 ⟨h.1, h.2.1, h.2.2.1, h.2.2.2.1, h.2.2.2.2.1, h.2.2.2.2.2.1⟩
theorem rdMono (m : Nat) : Rd Try.prog 261 m eMono (okMono (2^48)) := by
  cases m with
  | zero => exact .zero
  | succ m =>
    exact (rd_struct st261 co261 (rdL_cons (off' := 1) (by rw [co3]) (rdI un3) (rdL_cons (off' := 2) (by rw [co38]) (rdS un38 co9 by9 (by decide) (fun k _ => rdStr un9)) rdL_nil))).map (fun p => ⟨ p.1, p.2.1⟩) (fun p _ => by rw [eMono_eta]; simp [eMono_eta, Mono.coef, Mono.vars, slI, eS]) fun p h => okMono_iff.2 ⟨h.1, h.2.1⟩
theorem rdPoly (m : Nat) : Rd Try.prog 37 m ePoly (okPoly (2^48)) := by
  cases m with
  | zero => exact .zero
  | succ m =>
    exact (rd_struct st37 co37 (rdL_cons (off' := 1) (by rw [co35]) (rdS un35 co261 by261 (by decide) (fun k hk => rdMono k)) rdL_nil)).map (fun p => p.1) (fun p _ => by rw [ePoly_eta]; simp [ePoly_eta, id, slI, eS]) fun p h => okPoly_iff.2 h.1
theorem rdAnnotated (m : Nat) : Rd Try.prog 185 m eAnn (okAnn (2^48)) := by
  cases m with
  | zero => exact .zero
  | succ m =>
    exact (rd_struct st185 co185 (rdL_cons (off' := 4) (by rw [co183]) (rdValue m) (rdL_cons (off' := 5) (by rw [co37]) (rdPoly m) rdL_nil))).map (fun p => ⟨ p.1, p.2.1⟩) (fun p _ => by rw [eAnn_eta]; simp [ePoly_eta, eVal_eta, eAnn_eta, Ann.value, Ann.poly, slI, eS]) fun p h => okAnn_iff.2 ⟨h.1, h.2.1⟩
theorem rdTableDecl (m : Nat) : Rd Try.prog 310 m eDecl (okDecl (2^48)) := by
  cases m with
  | zero => exact .zero
  | succ m =>
    exact (rd_struct st310 co310 (rdL_cons (off' := 1) (by rw [co9]) (rdStr un9) (rdL_cons (off' := 4) (by rw [co64]) (rdType m) rdL_nil))).map (fun p => ⟨ p.1, p.2.1⟩) (fun p _ => by rw [eDecl_eta]; simp [eTy_eta, eDecl_eta, Decl.name, Decl.row, slI, eS]) fun p h => okDecl_iff.2 ⟨h.1, h.2.1⟩
theorem rdSchema (m : Nat) : Rd Try.prog 134 m eSch (okSch (2^48)) := by
  cases m with
  | zero => exact .zero
  | succ m =>
    exact (rd_struct st134 co134 (rdL_cons (off' := 1) (by rw [co132]) (rdS un132 co310 by310 (by decide) (fun k hk => rdTableDecl k)) rdL_nil)).map (fun p => p.1) (fun p _ => by rw [eSch_eta]; simp [eSch_eta, id, slI, eS]) fun p h => okSch_iff.2 h.1
theorem rdTableData (m : Nat) : Rd Try.prog 268 m eTData (okTData (2^48)) := by
  cases m with
  | zero => exact .zero
  | succ m =>
    exact (rd_struct st268 co268 (rdL_cons (off' := 1) (by rw [co9]) (rdStr un9) (rdL_cons (off' := 2) (by rw [co181]) (rdS un181 co183 by183 (by decide) (fun k hk => rdValue k)) rdL_nil))).map (fun p => ⟨ p.1, p.2.1⟩) (fun p _ => by rw [eTData_eta]; simp [eTData_eta, TData.name, TData.rows, slI, eS]) fun p h => okTData_iff.2 ⟨h.1, h.2.1⟩
theorem rdDB (m : Nat) : Rd Try.prog 48 m eDbs (okDbs (2^48)) := by
  cases m with
  | zero => exact .zero
  | succ m =>
    exact (rd_struct st48 co48 (rdL_cons (off' := 1) (by rw [co46]) (rdS un46 co268 by268 (by decide) (fun k hk => rdTableData k)) rdL_nil)).map (fun p => p.1) (fun p _ => by rw [eDbs_eta]; simp [eDbs_eta, id, slI, eS]) fun p h => okDbs_iff.2 h.1
theorem rdKeyDecl (m : Nat) : Rd Try.prog 50 m eKd (okKd (2^48)) := by
  cases m with
  | zero => exact .zero
  | succ m =>
    exact (rd_struct st50 co50 (rdL_cons (off' := 1) (by rw [co9]) (rdStr un9) (rdL_cons (off' := 2) (by rw [co9]) (rdStr un9) rdL_nil))).map (fun p => ⟨ p.1, p.2.1⟩) (fun p _ => by rw [eKd_eta]; simp [eKd_eta, Kd.table, Kd.label, slI, eS]) fun p h => okKd_iff.2 ⟨h.1, h.2.1⟩
theorem rdView (m : Nat) : Rd Try.prog 69 m eVw (okVw (2^48)) := by
  cases m with
  | zero => exact .zero
  | succ m =>
    exact (rd_struct st69 co69 (rdL_cons (off' := 1) (by rw [co9]) (rdStr un9) (rdL_cons (off' := 9) (by rw [co67]) (rdTerm m) (rdL_cons (off' := 10) (by rw [co38]) (rdS un38 co9 by9 (by decide) (fun k _ => rdStr un9)) (rdL_cons (off' := 11) (by rw [co9]) (rdStr un9) rdL_nil))))).map (fun p => ⟨ p.1, p.2.1, p.2.2.1, p.2.2.2.1⟩) (fun p _ => by rw [eVw_eta]; simp [eTm_eta, eTy_eta, eVw_eta, Vw.table, Vw.cond, Vw.cols, Vw.key, slI, eS]) fun p h => okVw_iff.2 ⟨h.1, h.2.1, h.2.2.1, h.2.2.2.1⟩
theorem rdSession (m : Nat) : Rd Try.prog 141 m eSes (okSes (2^48)) := by
  cases m with
  | zero => exact .zero
  | succ m =>
    exact (rd_struct st141 co141 (rdL_cons (off' := 1) (by rw [co134]) (rdSchema m) (rdL_cons (off' := 2) (by rw [co48]) (rdDB m) (rdL_cons (off' := 10) (by rw [co67]) (rdTerm m) (rdL_cons (off' := 18) (by rw [co67]) (rdTerm m) rdL_nil))))).map (fun p => ⟨ p.1, p.2.1, p.2.2.1, p.2.2.2.1⟩) (fun p _ => by rw [eSes_eta]; simp [eSes_eta, eSch_eta, eDbs_eta, eTm_eta, eTy_eta, Ses.schema, Ses.db, Ses.query, Ses.other, slI, eS]) fun p h => okSes_iff.2 ⟨h.1, h.2.1, h.2.2.1, h.2.2.2.1⟩
theorem rdPlan (m : Nat) : Rd Try.prog 123 m ePl (okPl (2^48)) := by
  induction m using Nat.strongRecOn with
  | _ m ih =>
    cases m with
    | zero => exact .zero
    | succ m =>
      exact (rd_struct st123 co123 (rdL_cons (off' := 1) (by rw [co3]) (rdI un3) (rdL_cons (off' := 2) (by rw [co9]) (rdStr un9) (rdL_cons (off' := 3) (by rw [co9]) (rdStr un9) (rdL_cons (off' := 11) (by rw [co67]) (rdTerm m) (rdL_cons (off' := 12) (by rw [co65]) (rdS un65 co67 by67 (by decide) (fun k hk => rdTerm k)) (rdL_cons (off' := 13) (by rw [co121]) (rdS un121 co123 by123 (by decide) (fun k hk => ih k (by omega))) rdL_nil))))))).map (fun p => Pl.mk p.1 p.2.1 p.2.2.1 p.2.2.2.1 p.2.2.2.2.1 p.2.2.2.2.2.1) (fun p _ => by rw [ePl_eta]; simp [ePl_eta, eTm_eta, eTy_eta, Pl.kind, Pl.var, Pl.table, Pl.cond, Pl.keys, Pl.args, slI, eS]) fun p h => okPl_iff.2 ⟨h.1, h.2.1, h.2.2.1, h.2.2.2.1, h.2.2.2.2.1, h.2.2.2.2.2.1⟩
end Go.VC.T
