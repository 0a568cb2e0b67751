/- How data are read. -/
import Derived.Test.YteinefllijajdaaG5L28
import Derived.Test.YteinefllijajdaaRows
import Derived.JoinedOf
import Derived.KernelRfl
import Derived.Test.YteinefllijajdaaG6L28
namespace Go.VC.T
open Go Go.VC Go.VC.F Go.Proofs
set_option linter.unusedSimpArgs false
set_option linter.unusedVariables false
theorem rdMono (m : Nat) : Rd Try.prog 93 m eMono (okMono (2^48)) := by
  cases m with
  | zero => exact .zero
  | succ m =>
    exact (rd_struct st93 co93 (rdL_cons (off' := 1) (by rw [co3]) (rdI un3) (rdL_cons (off' := 2) (by rw [co55]) (rdS un55 co9 by9 (by decide) (fun k _ => rdStr un9)) rdL_nil))).map (fun p => ⟨ p.1, p.2.1⟩) (fun p _ => by rw [eMono_eta]; simp [eMono_eta, Mono.coef, Mono.vars, slI, eS]) fun p h => okMono_iff.2 ⟨h.1, h.2.1⟩
theorem rdPoly (m : Nat) : Rd Try.prog 24 m ePoly (okPoly (2^48)) := by
  cases m with
  | zero => exact .zero
  | succ m =>
    exact (rd_struct st24 co24 (rdL_cons (off' := 1) (by rw [co22]) (rdS un22 co93 by93 (by decide) (fun k hk => rdMono k)) rdL_nil)).map (fun p => p.1) (fun p _ => by rw [ePoly_eta]; simp [ePoly_eta, id, slI, eS]) fun p h => okPoly_iff.2 h.1
end Go.VC.T
/- What the whole program is: once for all rows. -/
namespace Go.VC.H
open Go Go.Proofs Go.Proofs.Yteinefllijajdaa
theorem words_append : ∀ (w r : List Char), w.all (· != Char.ofNat 32) = true → wordsSigns (w ++ Char.ofNat 32 :: r) = w :: wordsSigns r
  | [], r, _ => rfl
  | c :: w, r, h => by
    simp only [List.all_cons, Bool.and_eq_true, bne_iff_ne, ne_eq] at h
    have ih := words_append w r h.2
    rw [List.cons_append]
    rw [wordsSigns.eq_def]
    split
    · rename_i h1; cases h1
    · rename_i h1; exact absurd (List.cons.inj h1).1 h.1
    · rename_i h1
      obtain ⟨rfl, rfl⟩ := List.cons.inj h1
      rw [ih]
theorem strip_cut (R : List (List Char)) : stripLifts liftWords ("cut".toList :: R) = ([], "cut".toList :: R) := rfl
theorem head_of {P : Program} {S T : List Char} (h : P.initOrder.toList = "harness".toList ++ Char.ofNat 32 :: (S ++ Char.ofNat 32 :: ("cut".toList ++ Char.ofNat 32 :: T))) (hs : isSumSigns S = true) (hw : S.all (· != Char.ofNat 32) = true) : behindMainWord (wordsSigns P.initOrder.toList) = "cut".toList :: wordsSigns T := by
  rw [h, words_append _ _ (by decide), words_append _ _ hw, words_append _ _ (by decide)]
  show (if (("harness".toList == "harness".toList || "harness".toList == "ownmain".toList) && isSumSigns S) = true then "cut".toList :: wordsSigns T else "harness".toList :: S :: "cut".toList :: wordsSigns T) = _
  rw [hs]
  rfl
theorem enter_of {P : Program} {R : List (List Char)} (h : behindMainWord (wordsSigns P.initOrder.toList) = "cut".toList :: R) (hl : P.laysLater = false) (hb : P.bearsReflect = false) (hd : P.doorFits [] = true) : P.mayEnter = true := by
  unfold Program.mayEnter
  rw [h]
  simp only [strip_cut, hl, hb, hd]
  rfl
theorem lifts_of {P : Program} {R : List (List Char)} (h : behindMainWord (wordsSigns P.initOrder.toList) = "cut".toList :: R) : P.liftsFinal = false := by
  unfold Program.liftsFinal Program.headLifts
  rw [h]
  simp only [strip_cut]
  rfl
theorem make_of {P : Program} {R : List (List Char)} (h : behindMainWord (wordsSigns P.initOrder.toList) = "cut".toList :: R) : P.make = some .cut := by
  unfold Program.make
  rw [h]
  rfl
theorem order : Try.prog.initOrder = "harness 16115bade3f93e41827f0a87af0c1f575ab439d79e42939ee080a796a0be76c9 cut at loop.example/g00587/laws.FnExactAddPoly loop.example/g00587/laws.FnExactSampleDB loop.example/g00587/laws.FnExactMulPoly" := by kernel_rfl
set_option maxRecDepth 100000 in
theorem order_list : ("harness 16115bade3f93e41827f0a87af0c1f575ab439d79e42939ee080a796a0be76c9 cut at loop.example/g00587/laws.FnExactAddPoly loop.example/g00587/laws.FnExactSampleDB loop.example/g00587/laws.FnExactMulPoly" : String) = String.ofList (([104, 97, 114, 110, 101, 115, 115].map Char.ofNat) ++ Char.ofNat 32 :: (([49, 54, 49, 49, 53, 98, 97, 100, 101, 51, 102, 57, 51, 101, 52, 49, 56, 50, 55, 102, 48, 97, 56, 55, 97, 102, 48, 99, 49, 102, 53, 55, 53, 97, 98, 52, 51, 57, 100, 55, 57, 101, 52, 50, 57, 51, 57, 101, 101, 48, 56, 48, 97, 55, 57, 54, 97, 48, 98, 101, 55, 54, 99, 57].map Char.ofNat) ++ Char.ofNat 32 :: (([99, 117, 116].map Char.ofNat) ++ Char.ofNat 32 :: ([97, 116, 32, 108, 111, 111, 112, 46, 101, 120, 97, 109, 112, 108, 101, 47, 103, 48, 48, 53, 56, 55, 47, 108, 97, 119, 115, 46, 70, 110, 69, 120, 97, 99, 116, 65, 100, 100, 80, 111, 108, 121, 32, 108, 111, 111, 112, 46, 101, 120, 97, 109, 112, 108, 101, 47, 103, 48, 48, 53, 56, 55, 47, 108, 97, 119, 115, 46, 70, 110, 69, 120, 97, 99, 116, 83, 97, 109, 112, 108, 101, 68, 66, 32, 108, 111, 111, 112, 46, 101, 120, 97, 109, 112, 108, 101, 47, 103, 48, 48, 53, 56, 55, 47, 108, 97, 119, 115, 46, 70, 110, 69, 120, 97, 99, 116, 77, 117, 108, 80, 111, 108, 121].map Char.ofNat)))) := by kernel_rfl
set_option maxRecDepth 100000 in
theorem head : behindMainWord (wordsSigns Try.prog.initOrder.toList) = "cut".toList :: wordsSigns ([97, 116, 32, 108, 111, 111, 112, 46, 101, 120, 97, 109, 112, 108, 101, 47, 103, 48, 48, 53, 56, 55, 47, 108, 97, 119, 115, 46, 70, 110, 69, 120, 97, 99, 116, 65, 100, 100, 80, 111, 108, 121, 32, 108, 111, 111, 112, 46, 101, 120, 97, 109, 112, 108, 101, 47, 103, 48, 48, 53, 56, 55, 47, 108, 97, 119, 115, 46, 70, 110, 69, 120, 97, 99, 116, 83, 97, 109, 112, 108, 101, 68, 66, 32, 108, 111, 111, 112, 46, 101, 120, 97, 109, 112, 108, 101, 47, 103, 48, 48, 53, 56, 55, 47, 108, 97, 119, 115, 46, 70, 110, 69, 120, 97, 99, 116, 77, 117, 108, 80, 111, 108, 121].map Char.ofNat) :=
  head_of (S := ([49, 54, 49, 49, 53, 98, 97, 100, 101, 51, 102, 57, 51, 101, 52, 49, 56, 50, 55, 102, 48, 97, 56, 55, 97, 102, 48, 99, 49, 102, 53, 55, 53, 97, 98, 52, 51, 57, 100, 55, 57, 101, 52, 50, 57, 51, 57, 101, 101, 48, 56, 48, 97, 55, 57, 54, 97, 48, 98, 101, 55, 54, 99, 57].map Char.ofNat)) (by rw [order, order_list, String.toList_ofList]; rfl) (by decide +kernel) (by decide +kernel)
theorem later : Try.prog.laysLater = false := by kernel_rfl
theorem reflect : Try.prog.bearsReflect = false := by kernel_rfl
theorem door : Try.prog.doorFits [] = true := by kernel_rfl
theorem enter : Try.prog.mayEnter = true := enter_of head later reflect door
theorem lifts : Try.prog.liftsFinal = false := lifts_of head
theorem make : Try.prog.make = some .cut := make_of head
end Go.VC.H
