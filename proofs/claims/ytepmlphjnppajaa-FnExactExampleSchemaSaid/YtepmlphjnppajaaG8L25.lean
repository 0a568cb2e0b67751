/- How data are read. -/
import Derived.Test.YtepmlphjnppajaaG5L25
import Derived.Test.YtepmlphjnppajaaRows
import Derived.JoinedOf
import Derived.KernelRfl
import Derived.Test.YtepmlphjnppajaaG7L25
namespace Go.VC.T
open Go Go.VC Go.VC.F Go.Proofs
set_option linter.unusedSimpArgs false
set_option linter.unusedVariables false
theorem rdType (m : Nat) : Rd Try.prog 66 m eTy (okTy (2^48)) := by
  induction m using Nat.strongRecOn with
  | _ m ih =>
    cases m with
    | zero => exact .zero
    | succ m =>
      exact (rd_struct st66 co66 (rdL_cons (off' := 1) (by rw [co3]) (rdI un3) (rdL_cons (off' := 2) (by rw [co63]) (rdS un63 co9 by9 (by decide) (fun k _ => rdStr un9)) (rdL_cons (off' := 3) (by rw [co64]) (rdS un64 co66 by66 (by decide) (fun k hk => ih k (by omega))) rdL_nil)))).map (fun p => Ty.mk p.1 p.2.1 p.2.2.1) (fun p _ => by rw [eTy_eta]; simp [eTy_eta, Ty.kind, Ty.labels, Ty.args, slI, eS]) fun p h => okTy_iff.2 ⟨h.1, h.2.1, h.2.2.1⟩
theorem rdValue (m : Nat) : Rd Try.prog 245 m eVal (okVal (2^48)) := by
  induction m using Nat.strongRecOn with
  | _ m ih =>
    cases m with
    | zero => exact .zero
    | succ m =>
      exact (rd_struct st245 co245 (rdL_cons (off' := 1) (by rw [co3]) (rdI un3) (rdL_cons (off' := 2) (by rw [co3]) (rdI un3) (rdL_cons (off' := 3) (by rw [co63]) (rdS un63 co9 by9 (by decide) (fun k _ => rdStr un9)) (rdL_cons (off' := 4) (by rw [co165]) (rdS un165 co245 by245 (by decide) (fun k hk => ih k (by omega))) rdL_nil))))).map (fun p => Val.mk p.1 p.2.1 p.2.2.1 p.2.2.2.1) (fun p _ => by rw [eVal_eta]; simp [eVal_eta, Val.kind, Val.n, Val.labels, Val.args, slI, eS]) fun p h => okVal_iff.2 ⟨h.1, h.2.1, h.2.2.1, h.2.2.2.1⟩
theorem rdTerm (m : Nat) : Rd Try.prog 69 m eTm (okTm (2^48)) := by
  induction m using Nat.strongRecOn with
  | _ m ih =>
    cases m with
    | zero => exact .zero
    | succ m =>
      exact (rd_struct st69 co69 (rdL_cons (off' := 1) (by rw [co3]) (rdI un3) (rdL_cons (off' := 2) (by rw [co9]) (rdStr un9) (rdL_cons (off' := 3) (by rw [co3]) (rdI un3) (rdL_cons (off' := 6) (by rw [co66]) (rdType m) (rdL_cons (off' := 7) (by rw [co63]) (rdS un63 co9 by9 (by decide) (fun k _ => rdStr un9)) (rdL_cons (off' := 8) (by rw [co67]) (rdS un67 co69 by69 (by decide) (fun k hk => ih k (by omega))) rdL_nil))))))).map (fun p => Tm.mk p.1 p.2.1 p.2.2.1 p.2.2.2.1 p.2.2.2.2.1 p.2.2.2.2.2.1) (fun p _ => by rw [eTm_eta]; simp [eTm_eta, eTy_eta, Tm.kind, Tm.name, Tm.n, Tm.ty, Tm.labels, Tm.args, slI, eS]) fun p h => okTm_iff.2 ⟨h.1, h.2.1, h.2.2.1, h.2.2.2.1, h.2.2.2.2.1, h.2.2.2.2.2.1⟩
theorem rdMono (m : Nat) : Rd Try.prog 179 m eMono (okMono (2^48)) := by
  cases m with
  | zero => exact .zero
  | succ m =>
    exact (rd_struct st179 co179 (rdL_cons (off' := 1) (by rw [co3]) (rdI un3) (rdL_cons (off' := 2) (by rw [co63]) (rdS un63 co9 by9 (by decide) (fun k _ => rdStr un9)) rdL_nil))).map (fun p => ⟨ p.1, p.2.1⟩) (fun p _ => by rw [eMono_eta]; simp [eMono_eta, Mono.coef, Mono.vars, slI, eS]) fun p h => okMono_iff.2 ⟨h.1, h.2.1⟩
theorem rdPoly (m : Nat) : Rd Try.prog 52 m ePoly (okPoly (2^48)) := by
  cases m with
  | zero => exact .zero
  | succ m =>
    exact (rd_struct st52 co52 (rdL_cons (off' := 1) (by rw [co50]) (rdS un50 co179 by179 (by decide) (fun k hk => rdMono k)) rdL_nil)).map (fun p => p.1) (fun p _ => by rw [ePoly_eta]; simp [ePoly_eta, id, slI, eS]) fun p h => okPoly_iff.2 h.1
theorem rdTableDecl (m : Nat) : Rd Try.prog 199 m eDecl (okDecl (2^48)) := by
  cases m with
  | zero => exact .zero
  | succ m =>
    exact (rd_struct st199 co199 (rdL_cons (off' := 1) (by rw [co9]) (rdStr un9) (rdL_cons (off' := 4) (by rw [co66]) (rdType m) rdL_nil))).map (fun p => ⟨ p.1, p.2.1⟩) (fun p _ => by rw [eDecl_eta]; simp [eTy_eta, eDecl_eta, Decl.name, Decl.row, slI, eS]) fun p h => okDecl_iff.2 ⟨h.1, h.2.1⟩
theorem rdSchema (m : Nat) : Rd Try.prog 89 m eSch (okSch (2^48)) := by
  cases m with
  | zero => exact .zero
  | succ m =>
    exact (rd_struct st89 co89 (rdL_cons (off' := 1) (by rw [co87]) (rdS un87 co199 by199 (by decide) (fun k hk => rdTableDecl k)) rdL_nil)).map (fun p => p.1) (fun p _ => by rw [eSch_eta]; simp [eSch_eta, id, slI, eS]) fun p h => okSch_iff.2 h.1
theorem rdTableData (m : Nat) : Rd Try.prog 167 m eTData (okTData (2^48)) := by
  cases m with
  | zero => exact .zero
  | succ m =>
    exact (rd_struct st167 co167 (rdL_cons (off' := 1) (by rw [co9]) (rdStr un9) (rdL_cons (off' := 2) (by rw [co165]) (rdS un165 co245 by245 (by decide) (fun k hk => rdValue k)) rdL_nil))).map (fun p => ⟨ p.1, p.2.1⟩) (fun p _ => by rw [eTData_eta]; simp [eTData_eta, TData.name, TData.rows, slI, eS]) fun p h => okTData_iff.2 ⟨h.1, h.2.1⟩
theorem rdDB (m : Nat) : Rd Try.prog 29 m eDbs (okDbs (2^48)) := by
  cases m with
  | zero => exact .zero
  | succ m =>
    exact (rd_struct st29 co29 (rdL_cons (off' := 1) (by rw [co27]) (rdS un27 co167 by167 (by decide) (fun k hk => rdTableData k)) rdL_nil)).map (fun p => p.1) (fun p _ => by rw [eDbs_eta]; simp [eDbs_eta, id, slI, eS]) fun p h => okDbs_iff.2 h.1
theorem rdKeyDecl (m : Nat) : Rd Try.prog 31 m eKd (okKd (2^48)) := by
  cases m with
  | zero => exact .zero
  | succ m =>
    exact (rd_struct st31 co31 (rdL_cons (off' := 1) (by rw [co9]) (rdStr un9) (rdL_cons (off' := 2) (by rw [co9]) (rdStr un9) rdL_nil))).map (fun p => ⟨ p.1, p.2.1⟩) (fun p _ => by rw [eKd_eta]; simp [eKd_eta, Kd.table, Kd.label, slI, eS]) fun p h => okKd_iff.2 ⟨h.1, h.2.1⟩
theorem rdPlan (m : Nat) : Rd Try.prog 72 m ePl (okPl (2^48)) := by
  induction m using Nat.strongRecOn with
  | _ m ih =>
    cases m with
    | zero => exact .zero
    | succ m =>
      exact (rd_struct st72 co72 (rdL_cons (off' := 1) (by rw [co3]) (rdI un3) (rdL_cons (off' := 2) (by rw [co9]) (rdStr un9) (rdL_cons (off' := 3) (by rw [co9]) (rdStr un9) (rdL_cons (off' := 11) (by rw [co69]) (rdTerm m) (rdL_cons (off' := 12) (by rw [co67]) (rdS un67 co69 by69 (by decide) (fun k hk => rdTerm k)) (rdL_cons (off' := 13) (by rw [co70]) (rdS un70 co72 by72 (by decide) (fun k hk => ih k (by omega))) rdL_nil))))))).map (fun p => Pl.mk p.1 p.2.1 p.2.2.1 p.2.2.2.1 p.2.2.2.2.1 p.2.2.2.2.2.1) (fun p _ => by rw [ePl_eta]; simp [ePl_eta, eTm_eta, eTy_eta, Pl.kind, Pl.var, Pl.table, Pl.cond, Pl.keys, Pl.args, slI, eS]) fun p h => okPl_iff.2 ⟨h.1, h.2.1, h.2.2.1, h.2.2.2.1, h.2.2.2.2.1, h.2.2.2.2.2.1⟩
end Go.VC.T
/- What the whole program is: once for all rows. -/
namespace Go.VC.H
open Go Go.Proofs Go.Proofs.Ytepmlphjnppajaa
theorem words_append : ∀ (w r : List Char), w.all (· != Char.ofNat 32) = true → wordsSigns (w ++ Char.ofNat 32 :: r) = w :: wordsSigns r
  | [], r, _ => rfl
  | c :: w, r, h => by
    simp only [List.all_cons, Bool.and_eq_true, bne_iff_ne, ne_eq] at h
    have ih := words_append w r h.2
    rw [List.cons_append]
    rw [wordsSigns.eq_def]
    split
    · rename_i h1; cases h1
    · rename_i h1; exact absurd (List.cons.inj h1).1 h.1
    · rename_i h1
      obtain ⟨rfl, rfl⟩ := List.cons.inj h1
      rw [ih]
theorem strip_cut (R : List (List Char)) : stripLifts liftWords ("cut".toList :: R) = ([], "cut".toList :: R) := rfl
theorem head_of {P : Program} {S T : List Char} (h : P.initOrder.toList = "harness".toList ++ Char.ofNat 32 :: (S ++ Char.ofNat 32 :: ("cut".toList ++ Char.ofNat 32 :: T))) (hs : isSumSigns S = true) (hw : S.all (· != Char.ofNat 32) = true) : behindMainWord (wordsSigns P.initOrder.toList) = "cut".toList :: wordsSigns T := by
  rw [h, words_append _ _ (by decide), words_append _ _ hw, words_append _ _ (by decide)]
  show (if (("harness".toList == "harness".toList || "harness".toList == "ownmain".toList) && isSumSigns S) = true then "cut".toList :: wordsSigns T else "harness".toList :: S :: "cut".toList :: wordsSigns T) = _
  rw [hs]
  rfl
theorem enter_of {P : Program} {R : List (List Char)} (h : behindMainWord (wordsSigns P.initOrder.toList) = "cut".toList :: R) (hl : P.laysLater = false) (hb : P.bearsReflect = false) (hd : P.doorFits [] = true) : P.mayEnter = true := by
  unfold Program.mayEnter
  rw [h]
  simp only [strip_cut, hl, hb, hd]
  rfl
theorem lifts_of {P : Program} {R : List (List Char)} (h : behindMainWord (wordsSigns P.initOrder.toList) = "cut".toList :: R) : P.liftsFinal = false := by
  unfold Program.liftsFinal Program.headLifts
  rw [h]
  simp only [strip_cut]
  rfl
theorem make_of {P : Program} {R : List (List Char)} (h : behindMainWord (wordsSigns P.initOrder.toList) = "cut".toList :: R) : P.make = some .cut := by
  unfold Program.make
  rw [h]
  rfl
theorem order : Try.prog.initOrder = "harness 6d61cbd73682e0aa06a03daf63fc42492920eb154e28153546039f4bc978b432 cut at loop.example/g00587/laws.FnExactOrdersOf loop.example/g00587/laws.FnExactHoldsKey loop.example/g00587/laws.FnExactExampleSchema loop.example/g00587/laws.FnExactAddPoly loop.example/g00587/laws.FnExactEstimateRows loop.example/g00587/laws.FnExactCostOf loop.example/g00587/laws.FnExactSampleDB loop.example/g00587/laws.FnExactMulPoly" := by kernel_rfl
set_option maxRecDepth 100000 in
theorem order_list : ("harness 6d61cbd73682e0aa06a03daf63fc42492920eb154e28153546039f4bc978b432 cut at loop.example/g00587/laws.FnExactOrdersOf loop.example/g00587/laws.FnExactHoldsKey loop.example/g00587/laws.FnExactExampleSchema loop.example/g00587/laws.FnExactAddPoly loop.example/g00587/laws.FnExactEstimateRows loop.example/g00587/laws.FnExactCostOf loop.example/g00587/laws.FnExactSampleDB loop.example/g00587/laws.FnExactMulPoly" : String) = String.ofList (([104, 97, 114, 110, 101, 115, 115].map Char.ofNat) ++ Char.ofNat 32 :: (([54, 100, 54, 49, 99, 98, 100, 55, 51, 54, 56, 50, 101, 48, 97, 97, 48, 54, 97, 48, 51, 100, 97, 102, 54, 51, 102, 99, 52, 50, 52, 57, 50, 57, 50, 48, 101, 98, 49, 53, 52, 101, 50, 56, 49, 53, 51, 53, 52, 54, 48, 51, 57, 102, 52, 98, 99, 57, 55, 56, 98, 52, 51, 50].map Char.ofNat) ++ Char.ofNat 32 :: (([99, 117, 116].map Char.ofNat) ++ Char.ofNat 32 :: ([97, 116, 32, 108, 111, 111, 112, 46, 101, 120, 97, 109, 112, 108, 101, 47, 103, 48, 48, 53, 56, 55, 47, 108, 97, 119, 115, 46, 70, 110, 69, 120, 97, 99, 116, 79, 114, 100, 101, 114, 115, 79, 102, 32, 108, 111, 111, 112, 46, 101, 120, 97, 109, 112, 108, 101, 47, 103, 48, 48, 53, 56, 55, 47, 108, 97, 119, 115, 46, 70, 110, 69, 120, 97, 99, 116, 72, 111, 108, 100, 115, 75, 101, 121, 32, 108, 111, 111, 112, 46, 101, 120, 97, 109, 112, 108, 101, 47, 103, 48, 48, 53, 56, 55, 47, 108, 97, 119, 115, 46, 70, 110, 69, 120, 97, 99, 116, 69, 120, 97, 109, 112, 108, 101, 83, 99, 104, 101, 109, 97, 32, 108, 111, 111, 112, 46, 101, 120, 97, 109, 112, 108, 101, 47, 103, 48, 48, 53, 56, 55, 47, 108, 97, 119, 115, 46, 70, 110, 69, 120, 97, 99, 116, 65, 100, 100, 80, 111, 108, 121, 32, 108, 111, 111, 112, 46, 101, 120, 97, 109, 112, 108, 101, 47, 103, 48, 48, 53, 56, 55, 47, 108, 97, 119, 115, 46, 70, 110, 69, 120, 97, 99, 116, 69, 115, 116, 105, 109, 97, 116, 101, 82, 111, 119, 115, 32, 108, 111, 111, 112, 46, 101, 120, 97, 109, 112, 108, 101, 47, 103, 48, 48, 53, 56, 55, 47, 108, 97, 119, 115, 46, 70, 110, 69, 120, 97, 99, 116, 67, 111, 115, 116, 79, 102, 32, 108, 111, 111, 112, 46, 101, 120, 97, 109, 112, 108, 101, 47, 103, 48, 48, 53, 56, 55, 47, 108, 97, 119, 115, 46, 70, 110, 69, 120, 97, 99, 116, 83, 97, 109, 112, 108, 101, 68, 66, 32, 108, 111, 111, 112, 46, 101, 120, 97, 109, 112, 108, 101, 47, 103, 48, 48, 53, 56, 55, 47, 108, 97, 119, 115, 46, 70, 110, 69, 120, 97, 99, 116, 77, 117, 108, 80, 111, 108, 121].map Char.ofNat)))) := by kernel_rfl
set_option maxRecDepth 100000 in
theorem head : behindMainWord (wordsSigns Try.prog.initOrder.toList) = "cut".toList :: wordsSigns ([97, 116, 32, 108, 111, 111, 112, 46, 101, 120, 97, 109, 112, 108, 101, 47, 103, 48, 48, 53, 56, 55, 47, 108, 97, 119, 115, 46, 70, 110, 69, 120, 97, 99, 116, 79, 114, 100, 101, 114, 115, 79, 102, 32, 108, 111, 111, 112, 46, 101, 120, 97, 109, 112, 108, 101, 47, 103, 48, 48, 53, 56, 55, 47, 108, 97, 119, 115, 46, 70, 110, 69, 120, 97, 99, 116, 72, 111, 108, 100, 115, 75, 101, 121, 32, 108, 111, 111, 112, 46, 101, 120, 97, 109, 112, 108, 101, 47, 103, 48, 48, 53, 56, 55, 47, 108, 97, 119, 115, 46, 70, 110, 69, 120, 97, 99, 116, 69, 120, 97, 109, 112, 108, 101, 83, 99, 104, 101, 109, 97, 32, 108, 111, 111, 112, 46, 101, 120, 97, 109, 112, 108, 101, 47, 103, 48, 48, 53, 56, 55, 47, 108, 97, 119, 115, 46, 70, 110, 69, 120, 97, 99, 116, 65, 100, 100, 80, 111, 108, 121, 32, 108, 111, 111, 112, 46, 101, 120, 97, 109, 112, 108, 101, 47, 103, 48, 48, 53, 56, 55, 47, 108, 97, 119, 115, 46, 70, 110, 69, 120, 97, 99, 116, 69, 115, 116, 105, 109, 97, 116, 101, 82, 111, 119, 115, 32, 108, 111, 111, 112, 46, 101, 120, 97, 109, 112, 108, 101, 47, 103, 48, 48, 53, 56, 55, 47, 108, 97, 119, 115, 46, 70, 110, 69, 120, 97, 99, 116, 67, 111, 115, 116, 79, 102, 32, 108, 111, 111, 112, 46, 101, 120, 97, 109, 112, 108, 101, 47, 103, 48, 48, 53, 56, 55, 47, 108, 97, 119, 115, 46, 70, 110, 69, 120, 97, 99, 116, 83, 97, 109, 112, 108, 101, 68, 66, 32, 108, 111, 111, 112, 46, 101, 120, 97, 109, 112, 108, 101, 47, 103, 48, 48, 53, 56, 55, 47, 108, 97, 119, 115, 46, 70, 110, 69, 120, 97, 99, 116, 77, 117, 108, 80, 111, 108, 121].map Char.ofNat) :=
  head_of (S := ([54, 100, 54, 49, 99, 98, 100, 55, 51, 54, 56, 50, 101, 48, 97, 97, 48, 54, 97, 48, 51, 100, 97, 102, 54, 51, 102, 99, 52, 50, 52, 57, 50, 57, 50, 48, 101, 98, 49, 53, 52, 101, 50, 56, 49, 53, 51, 53, 52, 54, 48, 51, 57, 102, 52, 98, 99, 57, 55, 56, 98, 52, 51, 50].map Char.ofNat)) (by rw [order, order_list, String.toList_ofList]; rfl) (by decide +kernel) (by decide +kernel)
theorem later : Try.prog.laysLater = false := by kernel_rfl
theorem reflect : Try.prog.bearsReflect = false := by kernel_rfl
theorem door : Try.prog.doorFits [] = true := by kernel_rfl
theorem enter : Try.prog.mayEnter = true := enter_of head later reflect door
theorem lifts : Try.prog.liftsFinal = false := lifts_of head
theorem make : Try.prog.make = some .cut := make_of head
end Go.VC.H
