/- How data are read. -/
import Derived.Test.YtednmgjookkcnaaDoorG5L24
import Derived.Test.YtednmgjookkcnaaDoorRows
import Derived.JoinedOf
import Derived.KernelRfl
import Derived.Test.YtednmgjookkcnaaDoorG6L24
namespace Go.VC.T
open Go Go.VC Go.VC.F Go.Proofs
set_option linter.unusedSimpArgs false
set_option linter.unusedVariables false
theorem rdValue (m : Nat) : Rd Tryd.prog 62 m eVal (okVal (2^48)) := by
  induction m using Nat.strongRecOn with
  | _ m ih =>
    cases m with
    | zero => exact .zero
    | succ m =>
      exact (rd_struct st62 co62 (rdL_cons (off' := 1) (by rw [co3]) (rdI un3) (rdL_cons (off' := 2) (by rw [co3]) (rdI un3) (rdL_cons (off' := 3) (by rw [co51]) (rdS un51 co9 by9 (by decide) (fun k _ => rdStr un9)) (rdL_cons (off' := 4) (by rw [co60]) (rdS un60 co62 by62 (by decide) (fun k hk => ih k (by omega))) rdL_nil))))).map (fun p => Val.mk p.1 p.2.1 p.2.2.1 p.2.2.2.1) (fun p _ => by rw [eVal_eta]; simp [eVal_eta, Val.kind, Val.n, Val.labels, Val.args, slI, eS]) fun p h => okVal_iff.2 ⟨h.1, h.2.1, h.2.2.1, h.2.2.2.1⟩
theorem rdMono (m : Nat) : Rd Tryd.prog 75 m eMono (okMono (2^48)) := by
  cases m with
  | zero => exact .zero
  | succ m =>
    exact (rd_struct st75 co75 (rdL_cons (off' := 1) (by rw [co3]) (rdI un3) (rdL_cons (off' := 2) (by rw [co51]) (rdS un51 co9 by9 (by decide) (fun k _ => rdStr un9)) rdL_nil))).map (fun p => ⟨ p.1, p.2.1⟩) (fun p _ => by rw [eMono_eta]; simp [eMono_eta, Mono.coef, Mono.vars, slI, eS]) fun p h => okMono_iff.2 ⟨h.1, h.2.1⟩
theorem rdPoly (m : Nat) : Rd Tryd.prog 32 m ePoly (okPoly (2^48)) := by
  cases m with
  | zero => exact .zero
  | succ m =>
    exact (rd_struct st32 co32 (rdL_cons (off' := 1) (by rw [co30]) (rdS un30 co75 by75 (by decide) (fun k hk => rdMono k)) rdL_nil)).map (fun p => p.1) (fun p _ => by rw [ePoly_eta]; simp [ePoly_eta, id, slI, eS]) fun p h => okPoly_iff.2 h.1
theorem rdAnnotated (m : Nat) : Rd Tryd.prog 64 m eAnn (okAnn (2^48)) := by
  cases m with
  | zero => exact .zero
  | succ m =>
    exact (rd_struct st64 co64 (rdL_cons (off' := 4) (by rw [co62]) (rdValue m) (rdL_cons (off' := 5) (by rw [co32]) (rdPoly m) rdL_nil))).map (fun p => ⟨ p.1, p.2.1⟩) (fun p _ => by rw [eAnn_eta]; simp [ePoly_eta, eVal_eta, eAnn_eta, Ann.value, Ann.poly, slI, eS]) fun p h => okAnn_iff.2 ⟨h.1, h.2.1⟩
end Go.VC.T
/- What the whole program is: once for all rows. -/
namespace Go.VC.H
open Go Go.Proofs Go.Proofs.YtednmgjookkcnaaDoor
theorem words_append : ∀ (w r : List Char), w.all (· != Char.ofNat 32) = true → wordsSigns (w ++ Char.ofNat 32 :: r) = w :: wordsSigns r
  | [], r, _ => rfl
  | c :: w, r, h => by
    simp only [List.all_cons, Bool.and_eq_true, bne_iff_ne, ne_eq] at h
    have ih := words_append w r h.2
    rw [List.cons_append]
    rw [wordsSigns.eq_def]
    split
    · rename_i h1; cases h1
    · rename_i h1; exact absurd (List.cons.inj h1).1 h.1
    · rename_i h1
      obtain ⟨rfl, rfl⟩ := List.cons.inj h1
      rw [ih]
theorem strip_cut (R : List (List Char)) : stripLifts liftWords ("cut".toList :: R) = ([], "cut".toList :: R) := rfl
theorem head_of {P : Program} {S T : List Char} (h : P.initOrder.toList = "harness".toList ++ Char.ofNat 32 :: (S ++ Char.ofNat 32 :: ("cut".toList ++ Char.ofNat 32 :: T))) (hs : isSumSigns S = true) (hw : S.all (· != Char.ofNat 32) = true) : behindMainWord (wordsSigns P.initOrder.toList) = "cut".toList :: wordsSigns T := by
  rw [h, words_append _ _ (by decide), words_append _ _ hw, words_append _ _ (by decide)]
  show (if (("harness".toList == "harness".toList || "harness".toList == "ownmain".toList) && isSumSigns S) = true then "cut".toList :: wordsSigns T else "harness".toList :: S :: "cut".toList :: wordsSigns T) = _
  rw [hs]
  rfl
theorem enter_of {P : Program} {R : List (List Char)} (h : behindMainWord (wordsSigns P.initOrder.toList) = "cut".toList :: R) (hl : P.laysLater = false) (hb : P.bearsReflect = false) (hd : P.doorFits [] = true) : P.mayEnter = true := by
  unfold Program.mayEnter
  rw [h]
  simp only [strip_cut, hl, hb, hd]
  rfl
theorem lifts_of {P : Program} {R : List (List Char)} (h : behindMainWord (wordsSigns P.initOrder.toList) = "cut".toList :: R) : P.liftsFinal = false := by
  unfold Program.liftsFinal Program.headLifts
  rw [h]
  simp only [strip_cut]
  rfl
theorem make_of {P : Program} {R : List (List Char)} (h : behindMainWord (wordsSigns P.initOrder.toList) = "cut".toList :: R) : P.make = some .cut := by
  unfold Program.make
  rw [h]
  rfl
theorem order : Tryd.prog.initOrder = "harness 58c6f11a5437c52bd0efa3b0e70dbc766dea5e7ebad3d54e39bca1aab2b2e5fe cut at loop.example/g00587/laws.FnExactTokenOf loop.example/g00587/laws.FnExactVerdictText loop.example/g00587/laws.FnExactPolyText loop.example/g00587/laws.FnExactProvText" := by kernel_rfl
set_option maxRecDepth 100000 in
theorem order_list : ("harness 58c6f11a5437c52bd0efa3b0e70dbc766dea5e7ebad3d54e39bca1aab2b2e5fe cut at loop.example/g00587/laws.FnExactTokenOf loop.example/g00587/laws.FnExactVerdictText loop.example/g00587/laws.FnExactPolyText loop.example/g00587/laws.FnExactProvText" : String) = String.ofList (([104, 97, 114, 110, 101, 115, 115].map Char.ofNat) ++ Char.ofNat 32 :: (([53, 56, 99, 54, 102, 49, 49, 97, 53, 52, 51, 55, 99, 53, 50, 98, 100, 48, 101, 102, 97, 51, 98, 48, 101, 55, 48, 100, 98, 99, 55, 54, 54, 100, 101, 97, 53, 101, 55, 101, 98, 97, 100, 51, 100, 53, 52, 101, 51, 57, 98, 99, 97, 49, 97, 97, 98, 50, 98, 50, 101, 53, 102, 101].map Char.ofNat) ++ Char.ofNat 32 :: (([99, 117, 116].map Char.ofNat) ++ Char.ofNat 32 :: ([97, 116, 32, 108, 111, 111, 112, 46, 101, 120, 97, 109, 112, 108, 101, 47, 103, 48, 48, 53, 56, 55, 47, 108, 97, 119, 115, 46, 70, 110, 69, 120, 97, 99, 116, 84, 111, 107, 101, 110, 79, 102, 32, 108, 111, 111, 112, 46, 101, 120, 97, 109, 112, 108, 101, 47, 103, 48, 48, 53, 56, 55, 47, 108, 97, 119, 115, 46, 70, 110, 69, 120, 97, 99, 116, 86, 101, 114, 100, 105, 99, 116, 84, 101, 120, 116, 32, 108, 111, 111, 112, 46, 101, 120, 97, 109, 112, 108, 101, 47, 103, 48, 48, 53, 56, 55, 47, 108, 97, 119, 115, 46, 70, 110, 69, 120, 97, 99, 116, 80, 111, 108, 121, 84, 101, 120, 116, 32, 108, 111, 111, 112, 46, 101, 120, 97, 109, 112, 108, 101, 47, 103, 48, 48, 53, 56, 55, 47, 108, 97, 119, 115, 46, 70, 110, 69, 120, 97, 99, 116, 80, 114, 111, 118, 84, 101, 120, 116].map Char.ofNat)))) := by kernel_rfl
set_option maxRecDepth 100000 in
theorem head : behindMainWord (wordsSigns Tryd.prog.initOrder.toList) = "cut".toList :: wordsSigns ([97, 116, 32, 108, 111, 111, 112, 46, 101, 120, 97, 109, 112, 108, 101, 47, 103, 48, 48, 53, 56, 55, 47, 108, 97, 119, 115, 46, 70, 110, 69, 120, 97, 99, 116, 84, 111, 107, 101, 110, 79, 102, 32, 108, 111, 111, 112, 46, 101, 120, 97, 109, 112, 108, 101, 47, 103, 48, 48, 53, 56, 55, 47, 108, 97, 119, 115, 46, 70, 110, 69, 120, 97, 99, 116, 86, 101, 114, 100, 105, 99, 116, 84, 101, 120, 116, 32, 108, 111, 111, 112, 46, 101, 120, 97, 109, 112, 108, 101, 47, 103, 48, 48, 53, 56, 55, 47, 108, 97, 119, 115, 46, 70, 110, 69, 120, 97, 99, 116, 80, 111, 108, 121, 84, 101, 120, 116, 32, 108, 111, 111, 112, 46, 101, 120, 97, 109, 112, 108, 101, 47, 103, 48, 48, 53, 56, 55, 47, 108, 97, 119, 115, 46, 70, 110, 69, 120, 97, 99, 116, 80, 114, 111, 118, 84, 101, 120, 116].map Char.ofNat) :=
  head_of (S := ([53, 56, 99, 54, 102, 49, 49, 97, 53, 52, 51, 55, 99, 53, 50, 98, 100, 48, 101, 102, 97, 51, 98, 48, 101, 55, 48, 100, 98, 99, 55, 54, 54, 100, 101, 97, 53, 101, 55, 101, 98, 97, 100, 51, 100, 53, 52, 101, 51, 57, 98, 99, 97, 49, 97, 97, 98, 50, 98, 50, 101, 53, 102, 101].map Char.ofNat)) (by rw [order, order_list, String.toList_ofList]; rfl) (by decide +kernel) (by decide +kernel)
theorem later : Tryd.prog.laysLater = false := by kernel_rfl
theorem reflect : Tryd.prog.bearsReflect = false := by kernel_rfl
theorem door : Tryd.prog.doorFits [] = true := by kernel_rfl
theorem enter : Tryd.prog.mayEnter = true := enter_of head later reflect door
theorem lifts : Tryd.prog.liftsFinal = false := lifts_of head
theorem make : Tryd.prog.make = some .cut := make_of head
end Go.VC.H
