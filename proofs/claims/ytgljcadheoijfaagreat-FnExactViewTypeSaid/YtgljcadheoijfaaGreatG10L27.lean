/- How data are read. -/
import Derived.Test.YtgljcadheoijfaaGreatG5L27
import Derived.Test.YtgljcadheoijfaaGreatRows
import Derived.JoinedOf
import Derived.KernelRfl
import Derived.Test.YtgljcadheoijfaaGreatG9L27
set_option linter.unusedSimpArgs false
set_option linter.unusedVariables false
set_option linter.defProp false
set_option maxRecDepth 100000
set_option maxHeartbeats 2000000
namespace Go.VC.T
open Go Go.VC Go.VC.F Go.Proofs
theorem rdType (m : Nat) : Rd Tryz.prog 28 m eTy (okTy (2^48)) := by
  induction m using Nat.strongRecOn with
  | _ m ih =>
    cases m with
    | zero => exact .zero
    | succ m =>
      exact (rd_struct st28 co28 (rdL_cons (off' := 1) (by rw [co3]) (rdI un3) (rdL_cons (off' := 2) (by rw [co25]) (rdS un25 co9 by9 (by decide) (fun k _ => rdStr un9)) (rdL_cons (off' := 3) (by rw [co26]) (rdS un26 co28 by28 (by decide) (fun k hk => ih k (by omega))) rdL_nil)))).map (fun p => Ty.mk p.1 p.2.1 p.2.2.1) (fun p _ => by rw [eTy_eta]; simp [eTy_eta, Ty.kind, Ty.labels, Ty.args, slI, eS]) fun p h => okTy_iff.2 ⟨h.1, h.2.1, h.2.2.1⟩
theorem rdTerm (m : Nat) : Rd Tryz.prog 31 m eTm (okTm (2^48)) := by
  induction m using Nat.strongRecOn with
  | _ m ih =>
    cases m with
    | zero => exact .zero
    | succ m =>
      exact (rd_struct st31 co31 (rdL_cons (off' := 1) (by rw [co3]) (rdI un3) (rdL_cons (off' := 2) (by rw [co9]) (rdStr un9) (rdL_cons (off' := 3) (by rw [co3]) (rdI un3) (rdL_cons (off' := 6) (by rw [co28]) (rdType m) (rdL_cons (off' := 7) (by rw [co25]) (rdS un25 co9 by9 (by decide) (fun k _ => rdStr un9)) (rdL_cons (off' := 8) (by rw [co29]) (rdS un29 co31 by31 (by decide) (fun k hk => ih k (by omega))) rdL_nil))))))).map (fun p => Tm.mk p.1 p.2.1 p.2.2.1 p.2.2.2.1 p.2.2.2.2.1 p.2.2.2.2.2.1) (fun p _ => by rw [eTm_eta]; simp [eTm_eta, eTy_eta, Tm.kind, Tm.name, Tm.n, Tm.ty, Tm.labels, Tm.args, slI, eS]) fun p h => okTm_iff.2 ⟨h.1, h.2.1, h.2.2.1, h.2.2.2.1, h.2.2.2.2.1, h.2.2.2.2.2.1⟩
theorem rdTableDecl (m : Nat) : Rd Tryz.prog 93 m eDecl (okDecl (2^48)) := by
  cases m with
  | zero => exact .zero
  | succ m =>
    exact (rd_struct st93 co93 (rdL_cons (off' := 1) (by rw [co9]) (rdStr un9) (rdL_cons (off' := 4) (by rw [co28]) (rdType m) rdL_nil))).map (fun p => ⟨ p.1, p.2.1⟩) (fun p _ => by rw [eDecl_eta]; simp [eTy_eta, eDecl_eta, Decl.name, Decl.row, slI, eS]) fun p h => okDecl_iff.2 ⟨h.1, h.2.1⟩
theorem rdSchema (m : Nat) : Rd Tryz.prog 24 m eSch (okSch (2^48)) := by
  cases m with
  | zero => exact .zero
  | succ m =>
    exact (rd_struct st24 co24 (rdL_cons (off' := 1) (by rw [co22]) (rdS un22 co93 by93 (by decide) (fun k hk => rdTableDecl k)) rdL_nil)).map (fun p => p.1) (fun p _ => by rw [eSch_eta]; simp [eSch_eta, id, slI, eS]) fun p h => okSch_iff.2 h.1
theorem rdView (m : Nat) : Rd Tryz.prog 33 m eVw (okVw (2^48)) := by
  cases m with
  | zero => exact .zero
  | succ m =>
    exact (rd_struct st33 co33 (rdL_cons (off' := 1) (by rw [co9]) (rdStr un9) (rdL_cons (off' := 9) (by rw [co31]) (rdTerm m) (rdL_cons (off' := 10) (by rw [co25]) (rdS un25 co9 by9 (by decide) (fun k _ => rdStr un9)) (rdL_cons (off' := 11) (by rw [co9]) (rdStr un9) rdL_nil))))).map (fun p => ⟨ p.1, p.2.1, p.2.2.1, p.2.2.2.1⟩) (fun p _ => by rw [eVw_eta]; simp [eTm_eta, eTy_eta, eVw_eta, Vw.table, Vw.cond, Vw.cols, Vw.key, slI, eS]) fun p h => okVw_iff.2 ⟨h.1, h.2.1, h.2.2.1, h.2.2.2.1⟩
end Go.VC.T
/- What the whole program is: once for all rows. -/
namespace Go.VC.H
open Go Go.Proofs Go.Proofs.YtgljcadheoijfaaGreat
theorem words_append : ∀ (w r : List Char), w.all (· != Char.ofNat 32) = true → wordsSigns (w ++ Char.ofNat 32 :: r) = w :: wordsSigns r
  | [], r, _ => rfl
  | c :: w, r, h => by
    simp only [List.all_cons, Bool.and_eq_true, bne_iff_ne, ne_eq] at h
    have ih := words_append w r h.2
    rw [List.cons_append]
    rw [wordsSigns.eq_def]
    split
    · rename_i h1; cases h1
    · rename_i h1; exact absurd (List.cons.inj h1).1 h.1
    · rename_i h1
      obtain ⟨rfl, rfl⟩ := List.cons.inj h1
      rw [ih]
theorem strip_cut (R : List (List Char)) : stripLifts liftWords ("cut".toList :: R) = ([], "cut".toList :: R) := rfl
theorem head_of {P : Program} {S T : List Char} (h : P.initOrder.toList = "harness".toList ++ Char.ofNat 32 :: (S ++ Char.ofNat 32 :: ("cut".toList ++ Char.ofNat 32 :: T))) (hs : isSumSigns S = true) (hw : S.all (· != Char.ofNat 32) = true) : behindMainWord (wordsSigns P.initOrder.toList) = "cut".toList :: wordsSigns T := by
  rw [h, words_append _ _ (by decide), words_append _ _ hw, words_append _ _ (by decide)]
  show (if (("harness".toList == "harness".toList || "harness".toList == "ownmain".toList) && isSumSigns S) = true then "cut".toList :: wordsSigns T else "harness".toList :: S :: "cut".toList :: wordsSigns T) = _
  rw [hs]
  rfl
theorem enter_of {P : Program} {R : List (List Char)} (h : behindMainWord (wordsSigns P.initOrder.toList) = "cut".toList :: R) (hl : P.laysLater = false) (hb : P.bearsReflect = false) (hd : P.doorFits [] = true) : P.mayEnter = true := by
  unfold Program.mayEnter
  rw [h]
  simp only [strip_cut, hl, hb, hd]
  rfl
theorem lifts_of {P : Program} {R : List (List Char)} (h : behindMainWord (wordsSigns P.initOrder.toList) = "cut".toList :: R) : P.liftsFinal = false := by
  unfold Program.liftsFinal Program.headLifts
  rw [h]
  simp only [strip_cut]
  rfl
theorem make_of {P : Program} {R : List (List Char)} (h : behindMainWord (wordsSigns P.initOrder.toList) = "cut".toList :: R) : P.make = some .cut := by
  unfold Program.make
  rw [h]
  rfl
theorem order : Tryz.prog.initOrder = "harness f12a3c1c00626ced562e32a19169379237d228f59524ac6b954ee870c2873142 cut at loop.example/g00587/laws.FnExactIsView loop.example/g00587/laws.FnExactViewType" := by kernel_rfl
set_option maxRecDepth 100000 in
theorem order_list : ("harness f12a3c1c00626ced562e32a19169379237d228f59524ac6b954ee870c2873142 cut at loop.example/g00587/laws.FnExactIsView loop.example/g00587/laws.FnExactViewType" : String) = String.ofList (([104, 97, 114, 110, 101, 115, 115].map Char.ofNat) ++ Char.ofNat 32 :: (([102, 49, 50, 97, 51, 99, 49, 99, 48, 48, 54, 50, 54, 99, 101, 100, 53, 54, 50, 101, 51, 50, 97, 49, 57, 49, 54, 57, 51, 55, 57, 50, 51, 55, 100, 50, 50, 56, 102, 53, 57, 53, 50, 52, 97, 99, 54, 98, 57, 53, 52, 101, 101, 56, 55, 48, 99, 50, 56, 55, 51, 49, 52, 50].map Char.ofNat) ++ Char.ofNat 32 :: (([99, 117, 116].map Char.ofNat) ++ Char.ofNat 32 :: ([97, 116, 32, 108, 111, 111, 112, 46, 101, 120, 97, 109, 112, 108, 101, 47, 103, 48, 48, 53, 56, 55, 47, 108, 97, 119, 115, 46, 70, 110, 69, 120, 97, 99, 116, 73, 115, 86, 105, 101, 119, 32, 108, 111, 111, 112, 46, 101, 120, 97, 109, 112, 108, 101, 47, 103, 48, 48, 53, 56, 55, 47, 108, 97, 119, 115, 46, 70, 110, 69, 120, 97, 99, 116, 86, 105, 101, 119, 84, 121, 112, 101].map Char.ofNat)))) := by kernel_rfl
set_option maxRecDepth 100000 in
theorem head : behindMainWord (wordsSigns Tryz.prog.initOrder.toList) = "cut".toList :: wordsSigns ([97, 116, 32, 108, 111, 111, 112, 46, 101, 120, 97, 109, 112, 108, 101, 47, 103, 48, 48, 53, 56, 55, 47, 108, 97, 119, 115, 46, 70, 110, 69, 120, 97, 99, 116, 73, 115, 86, 105, 101, 119, 32, 108, 111, 111, 112, 46, 101, 120, 97, 109, 112, 108, 101, 47, 103, 48, 48, 53, 56, 55, 47, 108, 97, 119, 115, 46, 70, 110, 69, 120, 97, 99, 116, 86, 105, 101, 119, 84, 121, 112, 101].map Char.ofNat) :=
  head_of (S := ([102, 49, 50, 97, 51, 99, 49, 99, 48, 48, 54, 50, 54, 99, 101, 100, 53, 54, 50, 101, 51, 50, 97, 49, 57, 49, 54, 57, 51, 55, 57, 50, 51, 55, 100, 50, 50, 56, 102, 53, 57, 53, 50, 52, 97, 99, 54, 98, 57, 53, 52, 101, 101, 56, 55, 48, 99, 50, 56, 55, 51, 49, 52, 50].map Char.ofNat)) (by rw [order, order_list, String.toList_ofList]; rfl) (by decide +kernel) (by decide +kernel)
theorem later : Tryz.prog.laysLater = false := by kernel_rfl
theorem reflect : Tryz.prog.bearsReflect = false := by kernel_rfl
theorem door : Tryz.prog.doorFits [] = true := by kernel_rfl
theorem enter : Tryz.prog.mayEnter = true := enter_of head later reflect door
theorem lifts : Tryz.prog.liftsFinal = false := lifts_of head
theorem make : Tryz.prog.make = some .cut := make_of head
end Go.VC.H
