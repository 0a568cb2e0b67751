/- Fields of terms: the reference. -/
import Derived.Test.YtgljcadheoijfaaGreatG7L27
import Derived.Test.YtgljcadheoijfaaGreatG4WL27
import Derived.Test.YtgljcadheoijfaaGreatG5L27
import Derived.Test.YtgljcadheoijfaaGreatG6L27
set_option linter.unusedSimpArgs false
set_option linter.unusedVariables false
set_option linter.defProp false
set_option maxRecDepth 100000
set_option maxHeartbeats 2000000
namespace Go.VC
open Go
/-- What the reference asks of a term's fields. -/
def FdOk (e : Tm) : Prop := (e.kind = 4 → opAr e.name ≠ 0) ∧ NdNm e ∧ NdTy e ∧ (e.kind = 5 → LabsOk e.labels) ∧ (¬ e.kind = 5 → e.labels.length = 0) ∧ 0 ≤ e.n ∧ e.n ≤ mostK e.kind
noncomputable instance (e : Tm) : Decidable (FdOk e) := Classical.propDecidable _
theorem zero_not {t : Ty} (h : zeroTy t) : ¬ TyOk t := fun h2 => by have := (thd_kind h2.hd).1; have := h.1; omega
end Go.VC
namespace Go.VC.T
open Go Go.VC Go.Proofs Go.VC.F
def fc83A96 := (ai (ai (ai sz3 ag3) (ai zv3 un3)) (ai (ai sz4 ag4) (ai zv4 un4)))
theorem l1In_b (x lo hi : Int) (b : Bool) (hbb : b = decide (lo ≤ x ∧ x ≤ hi)) : FnS Tryz.prog 83 [] [iT x, iT lo, iT hi] [] (bT b) := by
  refine FnS.go [0, 1, 2, 6] [] Tryz.func83 rfl (fun kt kz => ?_)
  have fcx := fc83A96
  simp only [Tryz.f83]
  by_cases h : lo ≤ x
  · have g := eq_true h
    have e : decide (x ≤ hi) = b := by rw [hbb]; exact decide_eq_decide.2 ⟨fun h2 => ⟨h, h2⟩, fun h => h.2⟩
    refine Run ((ai @g @e)) ?_; with_reducible repeat' (first | exact True.intro | refine Lf.mk ?_ ?_ | intro hb)
  · have g := eq_false h
    have e : b = false := by rw [hbb]; exact decide_eq_false fun h2 => h h2.1
    refine Run ((ai @g @e)) ?_; with_reducible repeat' (first | exact True.intro | refine Lf.mk ?_ ?_ | intro hb)

theorem l1In_t (x lo hi : Int) : FnP Tryz.prog 83 [iT x, iT lo, iT hi] (bT (decide (lo ≤ x ∧ x ≤ hi))) := l1In_b x lo hi _ rfl
def fc88A96 := (ai (ai (ai (ai (ai sz3 (ai ag3 zv3)) (ai un3 (ai sz4 ag4))) (ai (ai zv4 (ai un4 sz9)) (ai ag9 (ai zv9 un9)))) (ai (ai (ai sz25 (ai ag25 zv25)) (ai sb25 (ai un25 el25))) (ai (ai ap25 (ai sz41 ag41)) (ai (ai zv41 sb41) (ai un41 el41))))) (ai (ai (ai (ai ap41 (ai sz43 ag43)) (ai zv43 (ai fl43_0 fl43_1))) (ai (ai fl43_2 (ai pl43 sz46)) (ai ag46 (ai zv46 fl46_0)))) (ai (ai (ai fl46_1 (ai fl46_2 fl46_3)) (ai fl46_4 (ai fl46_5 pl46))) (ai (ai okf62 (ai okf64 okf83)) (ai (ai okf102 okf104) (ai okf105 sz44))))))
theorem l7Fields_ok (e : Tm) (h : okTm (2^20) e) (hz : zTm e ≤ 2^40) : FnS Tryz.prog 88 [] [agT (eTm e)] [] (bT (decide (FdOk e))) := by
  refine FnS.go [0, 1, 2, 3, 4, 7, 11, 29, 66, 86, 88, 89, 91] [] Tryz.func88 rfl (fun kt kz => ?_)
  have fcx := fc88A96
  simp only [Tryz.f88]
  have ho := okTm_iff.1 h
  have hzt : zTy e.ty ≤ 2^40 := by have := zTm_eta e; omega
  have hns : e.name.size ≤ 2^48 := by have := ho.2.1; unfold okS at this; omega
  have hno : ¬ FdOk e → decide (FdOk e) = false := decide_eq_false
  by_cases k4 : e.kind = 4
  · have g4 := eq_true k4
    have g7 := eq_false (show ¬ e.kind = 7 by omega)
    have g13 := eq_false (show ¬ e.kind = 13 by omega)
    have ktt : ¬ tyK e.kind := by unfold tyK; omega
    have kn : ¬ nmK e.kind := by unfold nmK; omega
    have hn : NdNm e := by unfold NdNm; rw [if_neg kn]; exact .inl k4
    refine Run ((ai @eTm_eta (ai @eTy_eta @g4))) ?_; with_reducible repeat' (first | exact True.intro | refine Lf.mk ?_ ?_ | intro hb)
    refine Cal ((ai @eTm_eta @eTy_eta)) (specArity_ok e.name) ?_
    by_cases c : opAr e.name = 0
    · have gc : (((opAr e.name : Nat) : Int) = 0) = True := eq_true (by omega)
      have er := hno fun h => h.1 k4 c
      refine Run ((ai (ai @eTm_eta @eTy_eta) (ai @gc @er))) ?_; with_reducible repeat' (first | exact True.intro | refine Lf.mk ?_ ?_ | intro hb)
    · have gc : (((opAr e.name : Nat) : Int) = 0) = False := eq_false (by omega)
      have hop : e.kind = 4 → opAr e.name ≠ 0 := fun _ => c
      refine Run ((ai (ai @eTm_eta (ai @eTy_eta @g4)) (ai @gc (ai @g7 @g13)))) ?_; with_reducible repeat' (first | exact True.intro | refine Lf.mk ?_ ?_ | intro hb)
      refine Cal ((ai @eTm_eta @eTy_eta)) (specTyOk_ok e.ty ho.2.2.2.1 hzt) ?_
      by_cases cz : zeroTy e.ty
      · have gt := eq_false (zero_not cz)
        have hy : NdTy e := by unfold NdTy; rw [if_neg ktt]; exact cz
        have z1 := eq_true cz.1
        have z2 : (0 < (e.ty.labels.length : Int)) = False := eq_false (by have := cz.2.1; omega)
        have z3 : (0 < (e.ty.args.length : Int)) = False := eq_false (by have := cz.2.2; omega)
        have k2 : ¬ e.kind = 2 := by omega
        have g2 := eq_false k2
        have k3 : ¬ e.kind = 3 := by omega
        have g3 := eq_false k3
        have k5 : ¬ e.kind = 5 := by omega
        have g5 := eq_false k5
        by_cases cl : e.labels.length = 0
        · have gl : (0 < (e.labels.length : Int)) = False := eq_false (by omega)
          have hl : ¬ e.kind = 5 → e.labels.length = 0 := fun _ => cl
          have hl5 : e.kind = 5 → LabsOk e.labels := fun h => absurd h k5
          have em : mostK e.kind = 0 := by simp [mostK, k2, k3]
          have er : decide (0 ≤ e.n ∧ e.n ≤ 0) = decide (FdOk e) := decide_eq_decide.2 ⟨fun h => ⟨hop, hn, hy, hl5, hl, h.1, by rw [em]; exact h.2⟩, fun h => ⟨h.2.2.2.2.2.1, by have := h.2.2.2.2.2.2; rwa [em] at this⟩⟩
          refine Run ((ai (ai (ai @eTm_eta (ai @eTy_eta @g4)) (ai (ai @gc @g7) (ai @g13 @gt))) (ai (ai @z1 (ai @z2 @z3)) (ai (ai @g2 @g3) (ai @g5 @gl))))) ?_; with_reducible repeat' (first | exact True.intro | refine Lf.mk ?_ ?_ | intro hb)
          refine Cal ((ai @eTm_eta @eTy_eta)) (l1In_t e.n 0 0) ?_
          refine Run ((ai @eTm_eta (ai @eTy_eta @er))) ?_; with_reducible repeat' (first | exact True.intro | refine Lf.mk ?_ ?_ | intro hb)
        · have gl : (0 < (e.labels.length : Int)) = True := eq_true (by omega)
          have er := hno fun h => cl (h.2.2.2.2.1 k5)
          refine Run ((ai (ai (ai @eTm_eta (ai @eTy_eta @g4)) (ai (ai @gc @g7) (ai @g13 @gt))) (ai (ai (ai @z1 @z2) (ai @z3 @g2)) (ai (ai @g3 @g5) (ai @gl @er))))) ?_; with_reducible repeat' (first | exact True.intro | refine Lf.mk ?_ ?_ | intro hb)
      · have er := hno fun h => cz (by have := h.2.2.1; unfold NdTy at this; rwa [if_neg ktt] at this)
        by_cases ct : TyOk e.ty
        · have gt := eq_true ct
          refine Run ((ai (ai (ai @eTm_eta @eTy_eta) (ai @g4 @gc)) (ai (ai @g7 @g13) (ai @gt @er)))) ?_; with_reducible repeat' (first | exact True.intro | refine Lf.mk ?_ ?_ | intro hb)
        · have gt := eq_false ct
          by_cases z1 : e.ty.kind = 0
          · have z1 := eq_true z1
            by_cases z2 : 0 < (e.ty.labels.length : Int)
            · have z2 := eq_true z2
              refine Run ((ai (ai (ai @eTm_eta @eTy_eta) (ai @g4 (ai @gc @g7))) (ai (ai @g13 @gt) (ai @z1 (ai @z2 @er))))) ?_; with_reducible repeat' (first | exact True.intro | refine Lf.mk ?_ ?_ | intro hb)
            · have z3 : (0 < (e.ty.args.length : Int)) = True := eq_true (by have : ¬ e.ty.args.length = 0 := fun h => cz ⟨of_eq_true z1, by omega, h⟩; omega)
              have z2 := eq_false z2
              refine Run ((ai (ai (ai @eTm_eta @eTy_eta) (ai @g4 (ai @gc @g7))) (ai (ai @g13 (ai @gt @z1)) (ai @z2 (ai @z3 @er))))) ?_; with_reducible repeat' (first | exact True.intro | refine Lf.mk ?_ ?_ | intro hb)
          · have z1 := eq_false z1
            refine Run ((ai (ai (ai @eTm_eta @eTy_eta) (ai @g4 @gc)) (ai (ai @g7 @g13) (ai @gt (ai @z1 @er))))) ?_; with_reducible repeat' (first | exact True.intro | refine Lf.mk ?_ ?_ | intro hb)
  · have g4 := eq_false k4
    have hop : e.kind = 4 → opAr e.name ≠ 0 := fun h => absurd h k4
    refine Run ((ai @eTm_eta (ai @eTy_eta @g4))) ?_; with_reducible repeat' (first | exact True.intro | refine Lf.mk ?_ ?_ | intro hb)
    refine Cal ((ai @eTm_eta @eTy_eta)) (l7Named_ok e.kind) ?_
    refine Run ((ai @eTm_eta @eTy_eta)) ?_; with_reducible repeat' (first | exact True.intro | refine Lf.mk ?_ ?_ | intro hb)
    refine Cal ((ai @eTm_eta @eTy_eta)) (specName_ok e.name hns) ?_
    by_cases kn : nmK e.kind
    · have gn := eq_true kn
      by_cases cn : NameOk e.name
      · have gm := eq_true cn
        have hn : NdNm e := by unfold NdNm; rw [if_pos kn]; exact cn
        refine Run ((ai (ai @eTm_eta @eTy_eta) (ai @gn @gm))) ?_; with_reducible repeat' (first | exact True.intro | refine Lf.mk ?_ ?_ | intro hb)
        refine Cal ((ai @eTm_eta @eTy_eta)) (l7Named_ok e.kind) ?_
        have kk := kn
        unfold nmK at kk
        have g7 := eq_false (show ¬ e.kind = 7 by omega)
        by_cases k13 : e.kind = 13
        · have g13 := eq_true k13
          have ktt : tyK e.kind := .inr k13
          refine Run ((ai (ai @eTm_eta (ai @eTy_eta @gn)) (ai @gm (ai @g7 @g13)))) ?_; with_reducible repeat' (first | exact True.intro | refine Lf.mk ?_ ?_ | intro hb)
          refine Cal ((ai @eTm_eta @eTy_eta)) (specTyOk_ok e.ty ho.2.2.2.1 hzt) ?_
          by_cases ct : TyOk e.ty
          · have gt := eq_true ct
            have hy : NdTy e := by unfold NdTy; rw [if_pos ktt]; exact ct
            have k2 : ¬ e.kind = 2 := by omega
            have g2 := eq_false k2
            have k3 : ¬ e.kind = 3 := by omega
            have g3 := eq_false k3
            have k5 : ¬ e.kind = 5 := by omega
            have g5 := eq_false k5
            by_cases cl : e.labels.length = 0
            · have gl : (0 < (e.labels.length : Int)) = False := eq_false (by omega)
              have hl : ¬ e.kind = 5 → e.labels.length = 0 := fun _ => cl
              have hl5 : e.kind = 5 → LabsOk e.labels := fun h => absurd h k5
              have em : mostK e.kind = 0 := by simp [mostK, k2, k3]
              have er : decide (0 ≤ e.n ∧ e.n ≤ 0) = decide (FdOk e) := decide_eq_decide.2 ⟨fun h => ⟨hop, hn, hy, hl5, hl, h.1, by rw [em]; exact h.2⟩, fun h => ⟨h.2.2.2.2.2.1, by have := h.2.2.2.2.2.2; rwa [em] at this⟩⟩
              refine Run ((ai (ai (ai @eTm_eta @eTy_eta) (ai @gn (ai @gm @g7))) (ai (ai @g13 (ai @gt @g2)) (ai @g3 (ai @g5 @gl))))) ?_; with_reducible repeat' (first | exact True.intro | refine Lf.mk ?_ ?_ | intro hb)
              refine Cal ((ai @eTm_eta @eTy_eta)) (l1In_t e.n 0 0) ?_
              refine Run ((ai @eTm_eta (ai @eTy_eta @er))) ?_; with_reducible repeat' (first | exact True.intro | refine Lf.mk ?_ ?_ | intro hb)
            · have gl : (0 < (e.labels.length : Int)) = True := eq_true (by omega)
              have er := hno fun h => cl (h.2.2.2.2.1 k5)
              refine Run ((ai (ai (ai @eTm_eta (ai @eTy_eta @gn)) (ai @gm (ai @g7 @g13))) (ai (ai @gt (ai @g2 @g3)) (ai @g5 (ai @gl @er))))) ?_; with_reducible repeat' (first | exact True.intro | refine Lf.mk ?_ ?_ | intro hb)
          · have gt := eq_false ct
            have er := hno fun h => ct (by have := h.2.2.1; unfold NdTy at this; rwa [if_pos ktt] at this)
            refine Run ((ai (ai (ai @eTm_eta @eTy_eta) (ai @gn @gm)) (ai (ai @g7 @g13) (ai @gt @er)))) ?_; with_reducible repeat' (first | exact True.intro | refine Lf.mk ?_ ?_ | intro hb)
        · have g13 := eq_false k13
          have ktt : ¬ tyK e.kind := by unfold tyK; omega
          refine Run ((ai (ai @eTm_eta (ai @eTy_eta @gn)) (ai @gm (ai @g7 @g13)))) ?_; with_reducible repeat' (first | exact True.intro | refine Lf.mk ?_ ?_ | intro hb)
          refine Cal ((ai @eTm_eta @eTy_eta)) (specTyOk_ok e.ty ho.2.2.2.1 hzt) ?_
          by_cases cz : zeroTy e.ty
          · have gt := eq_false (zero_not cz)
            have hy : NdTy e := by unfold NdTy; rw [if_neg ktt]; exact cz
            have z1 := eq_true cz.1
            have z2 : (0 < (e.ty.labels.length : Int)) = False := eq_false (by have := cz.2.1; omega)
            have z3 : (0 < (e.ty.args.length : Int)) = False := eq_false (by have := cz.2.2; omega)
            have k2 : ¬ e.kind = 2 := by omega
            have g2 := eq_false k2
            have k3 : ¬ e.kind = 3 := by omega
            have g3 := eq_false k3
            have k5 : ¬ e.kind = 5 := by omega
            have g5 := eq_false k5
            by_cases cl : e.labels.length = 0
            · have gl : (0 < (e.labels.length : Int)) = False := eq_false (by omega)
              have hl : ¬ e.kind = 5 → e.labels.length = 0 := fun _ => cl
              have hl5 : e.kind = 5 → LabsOk e.labels := fun h => absurd h k5
              have em : mostK e.kind = 0 := by simp [mostK, k2, k3]
              have er : decide (0 ≤ e.n ∧ e.n ≤ 0) = decide (FdOk e) := decide_eq_decide.2 ⟨fun h => ⟨hop, hn, hy, hl5, hl, h.1, by rw [em]; exact h.2⟩, fun h => ⟨h.2.2.2.2.2.1, by have := h.2.2.2.2.2.2; rwa [em] at this⟩⟩
              refine Run ((ai (ai (ai @eTm_eta (ai @eTy_eta @gn)) (ai (ai @gm @g7) (ai @g13 @gt))) (ai (ai @z1 (ai @z2 @z3)) (ai (ai @g2 @g3) (ai @g5 @gl))))) ?_; with_reducible repeat' (first | exact True.intro | refine Lf.mk ?_ ?_ | intro hb)
              refine Cal ((ai @eTm_eta @eTy_eta)) (l1In_t e.n 0 0) ?_
              refine Run ((ai @eTm_eta (ai @eTy_eta @er))) ?_; with_reducible repeat' (first | exact True.intro | refine Lf.mk ?_ ?_ | intro hb)
            · have gl : (0 < (e.labels.length : Int)) = True := eq_true (by omega)
              have er := hno fun h => cl (h.2.2.2.2.1 k5)
              refine Run ((ai (ai (ai @eTm_eta (ai @eTy_eta @gn)) (ai (ai @gm @g7) (ai @g13 @gt))) (ai (ai (ai @z1 @z2) (ai @z3 @g2)) (ai (ai @g3 @g5) (ai @gl @er))))) ?_; with_reducible repeat' (first | exact True.intro | refine Lf.mk ?_ ?_ | intro hb)
          · have er := hno fun h => cz (by have := h.2.2.1; unfold NdTy at this; rwa [if_neg ktt] at this)
            by_cases ct : TyOk e.ty
            · have gt := eq_true ct
              refine Run ((ai (ai (ai @eTm_eta @eTy_eta) (ai @gn @gm)) (ai (ai @g7 @g13) (ai @gt @er)))) ?_; with_reducible repeat' (first | exact True.intro | refine Lf.mk ?_ ?_ | intro hb)
            · have gt := eq_false ct
              by_cases z1 : e.ty.kind = 0
              · have z1 := eq_true z1
                by_cases z2 : 0 < (e.ty.labels.length : Int)
                · have z2 := eq_true z2
                  refine Run ((ai (ai (ai @eTm_eta @eTy_eta) (ai @gn (ai @gm @g7))) (ai (ai @g13 @gt) (ai @z1 (ai @z2 @er))))) ?_; with_reducible repeat' (first | exact True.intro | refine Lf.mk ?_ ?_ | intro hb)
                · have z3 : (0 < (e.ty.args.length : Int)) = True := eq_true (by have : ¬ e.ty.args.length = 0 := fun h => cz ⟨of_eq_true z1, by omega, h⟩; omega)
                  have z2 := eq_false z2
                  refine Run ((ai (ai (ai @eTm_eta @eTy_eta) (ai @gn (ai @gm @g7))) (ai (ai @g13 (ai @gt @z1)) (ai @z2 (ai @z3 @er))))) ?_; with_reducible repeat' (first | exact True.intro | refine Lf.mk ?_ ?_ | intro hb)
              · have z1 := eq_false z1
                refine Run ((ai (ai (ai @eTm_eta @eTy_eta) (ai @gn @gm)) (ai (ai @g7 @g13) (ai @gt (ai @z1 @er))))) ?_; with_reducible repeat' (first | exact True.intro | refine Lf.mk ?_ ?_ | intro hb)
      · have gm := eq_false cn
        have er := hno fun h => cn (by have := h.2.1; unfold NdNm at this; rwa [if_pos kn] at this)
        refine Run ((ai (ai @eTm_eta @eTy_eta) (ai @gn (ai @gm @er)))) ?_; with_reducible repeat' (first | exact True.intro | refine Lf.mk ?_ ?_ | intro hb)
    · have gn := eq_false kn
      by_cases cn : NameOk e.name
      · have gm := eq_true cn
        have er := hno fun h => by
          have := h.2.1; unfold NdNm at this; rw [if_neg kn] at this
          have h2 := cn.2.1.1
          rcases this with h3 | h3
          · exact k4 h3
          · rw [h3] at h2; exact absurd h2 (by decide)
        refine Run ((ai (ai @eTm_eta @eTy_eta) (ai @gn (ai @gm @er)))) ?_; with_reducible repeat' (first | exact True.intro | refine Lf.mk ?_ ?_ | intro hb)
      · have gm := eq_false cn
        refine Run ((ai (ai @eTm_eta @eTy_eta) (ai @gn @gm))) ?_; with_reducible repeat' (first | exact True.intro | refine Lf.mk ?_ ?_ | intro hb)
        refine Cal ((ai @eTm_eta @eTy_eta)) (l7Named_ok e.kind) ?_
        by_cases ce : e.name = ⟨#[]⟩
        · have ge := eq_true ce
          have hn : NdNm e := by unfold NdNm; rw [if_neg kn]; exact .inr ce
          have kk := kn
          unfold nmK at kk
          have g13 := eq_false (show ¬ e.kind = 13 by omega)
          by_cases k7 : e.kind = 7
          · have g7 := eq_true k7
            have ktt : tyK e.kind := .inl k7
            refine Run ((ai (ai @eTm_eta (ai @eTy_eta @gn)) (ai @ge (ai @g7 @g13)))) ?_; with_reducible repeat' (first | exact True.intro | refine Lf.mk ?_ ?_ | intro hb)
            refine Cal ((ai @eTm_eta @eTy_eta)) (specTyOk_ok e.ty ho.2.2.2.1 hzt) ?_
            by_cases ct : TyOk e.ty
            · have gt := eq_true ct
              have hy : NdTy e := by unfold NdTy; rw [if_pos ktt]; exact ct
              have k2 : ¬ e.kind = 2 := by omega
              have g2 := eq_false k2
              have k3 : ¬ e.kind = 3 := by omega
              have g3 := eq_false k3
              have k5 : ¬ e.kind = 5 := by omega
              have g5 := eq_false k5
              by_cases cl : e.labels.length = 0
              · have gl : (0 < (e.labels.length : Int)) = False := eq_false (by omega)
                have hl : ¬ e.kind = 5 → e.labels.length = 0 := fun _ => cl
                have hl5 : e.kind = 5 → LabsOk e.labels := fun h => absurd h k5
                have em : mostK e.kind = 0 := by simp [mostK, k2, k3]
                have er : decide (0 ≤ e.n ∧ e.n ≤ 0) = decide (FdOk e) := decide_eq_decide.2 ⟨fun h => ⟨hop, hn, hy, hl5, hl, h.1, by rw [em]; exact h.2⟩, fun h => ⟨h.2.2.2.2.2.1, by have := h.2.2.2.2.2.2; rwa [em] at this⟩⟩
                refine Run ((ai (ai (ai @eTm_eta @eTy_eta) (ai @gn (ai @ge @g7))) (ai (ai @g13 (ai @gt @g2)) (ai @g3 (ai @g5 @gl))))) ?_; with_reducible repeat' (first | exact True.intro | refine Lf.mk ?_ ?_ | intro hb)
                refine Cal ((ai @eTm_eta @eTy_eta)) (l1In_t e.n 0 0) ?_
                refine Run ((ai @eTm_eta (ai @eTy_eta @er))) ?_; with_reducible repeat' (first | exact True.intro | refine Lf.mk ?_ ?_ | intro hb)
              · have gl : (0 < (e.labels.length : Int)) = True := eq_true (by omega)
                have er := hno fun h => cl (h.2.2.2.2.1 k5)
                refine Run ((ai (ai (ai @eTm_eta (ai @eTy_eta @gn)) (ai @ge (ai @g7 @g13))) (ai (ai @gt (ai @g2 @g3)) (ai @g5 (ai @gl @er))))) ?_; with_reducible repeat' (first | exact True.intro | refine Lf.mk ?_ ?_ | intro hb)
            · have gt := eq_false ct
              have er := hno fun h => ct (by have := h.2.2.1; unfold NdTy at this; rwa [if_pos ktt] at this)
              refine Run ((ai (ai (ai @eTm_eta @eTy_eta) (ai @gn @ge)) (ai (ai @g7 @g13) (ai @gt @er)))) ?_; with_reducible repeat' (first | exact True.intro | refine Lf.mk ?_ ?_ | intro hb)
          · have g7 := eq_false k7
            have ktt : ¬ tyK e.kind := by unfold tyK; omega
            refine Run ((ai (ai @eTm_eta (ai @eTy_eta @gn)) (ai @ge (ai @g7 @g13)))) ?_; with_reducible repeat' (first | exact True.intro | refine Lf.mk ?_ ?_ | intro hb)
            refine Cal ((ai @eTm_eta @eTy_eta)) (specTyOk_ok e.ty ho.2.2.2.1 hzt) ?_
            by_cases cz : zeroTy e.ty
            · have gt := eq_false (zero_not cz)
              have hy : NdTy e := by unfold NdTy; rw [if_neg ktt]; exact cz
              have z1 := eq_true cz.1
              have z2 : (0 < (e.ty.labels.length : Int)) = False := eq_false (by have := cz.2.1; omega)
              have z3 : (0 < (e.ty.args.length : Int)) = False := eq_false (by have := cz.2.2; omega)
              by_cases k5 : e.kind = 5
              · have g5 := eq_true k5
                have k2 : ¬ e.kind = 2 := by omega
                have k3 : ¬ e.kind = 3 := by omega
                have g2 := eq_false k2
                have g3 := eq_false k3
                refine Run ((ai (ai (ai @eTm_eta @eTy_eta) (ai @gn (ai @ge @g7))) (ai (ai @g13 (ai @gt @z1)) (ai @z2 (ai @z3 @g5))))) ?_; with_reducible repeat' (first | exact True.intro | refine Lf.mk ?_ ?_ | intro hb)
                refine Cal ((ai @eTm_eta @eTy_eta)) (specLabs_ok e.labels ho.2.2.2.2.1) ?_
                by_cases cl : LabsOk e.labels
                · have gl := eq_true cl
                  have hl : ¬ e.kind = 5 → e.labels.length = 0 := fun h => absurd k5 h
                  have hl5 : e.kind = 5 → LabsOk e.labels := fun _ => cl
                  have em : mostK e.kind = 0 := by simp [mostK, k2, k3]
                  have er : decide (0 ≤ e.n ∧ e.n ≤ 0) = decide (FdOk e) := decide_eq_decide.2 ⟨fun h => ⟨hop, hn, hy, hl5, hl, h.1, by rw [em]; exact h.2⟩, fun h => ⟨h.2.2.2.2.2.1, by have := h.2.2.2.2.2.2; rwa [em] at this⟩⟩
                  refine Run ((ai (ai (ai @eTm_eta (ai @eTy_eta @gn)) (ai (ai @ge @g7) (ai @g13 @gt))) (ai (ai @z1 (ai @z2 @z3)) (ai (ai @g5 @gl) (ai @g2 @g3))))) ?_; with_reducible repeat' (first | exact True.intro | refine Lf.mk ?_ ?_ | intro hb)
                  refine Cal ((ai @eTm_eta @eTy_eta)) (l1In_t e.n 0 0) ?_
                  refine Run ((ai @eTm_eta (ai @eTy_eta @er))) ?_; with_reducible repeat' (first | exact True.intro | refine Lf.mk ?_ ?_ | intro hb)
                · have gl := eq_false cl
                  have er := hno fun h => cl (h.2.2.2.1 k5)
                  refine Run ((ai (ai (ai @eTm_eta (ai @eTy_eta @gn)) (ai @ge (ai @g7 @g13))) (ai (ai @gt (ai @z1 @z2)) (ai (ai @z3 @g5) (ai @gl @er))))) ?_; with_reducible repeat' (first | exact True.intro | refine Lf.mk ?_ ?_ | intro hb)
              · have g5 := eq_false k5
                by_cases cl : e.labels.length = 0
                · have gl : (0 < (e.labels.length : Int)) = False := eq_false (by omega)
                  have hl : ¬ e.kind = 5 → e.labels.length = 0 := fun _ => cl
                  have hl5 : e.kind = 5 → LabsOk e.labels := fun h => absurd h k5
                  by_cases k2 : e.kind = 2
                  · have g2 := eq_true k2
                    have em : mostK e.kind = 999 := by simp [mostK, k2]
                    have er : decide (0 ≤ e.n ∧ e.n ≤ 999) = decide (FdOk e) := decide_eq_decide.2 ⟨fun h => ⟨hop, hn, hy, hl5, hl, h.1, by rw [em]; exact h.2⟩, fun h => ⟨h.2.2.2.2.2.1, by have := h.2.2.2.2.2.2; rwa [em] at this⟩⟩
                    refine Run ((ai (ai (ai @eTm_eta (ai @eTy_eta @gn)) (ai @ge (ai @g7 @g13))) (ai (ai @gt (ai @z1 @z2)) (ai (ai @z3 @g5) (ai @gl @g2))))) ?_; with_reducible repeat' (first | exact True.intro | refine Lf.mk ?_ ?_ | intro hb)
                    refine Cal ((ai @eTm_eta @eTy_eta)) (l1In_t e.n 0 999) ?_
                    refine Run ((ai @eTm_eta (ai @eTy_eta @er))) ?_; with_reducible repeat' (first | exact True.intro | refine Lf.mk ?_ ?_ | intro hb)
                  · have g2 := eq_false k2
                    by_cases k3 : e.kind = 3
                    · have g3 := eq_true k3
                      have em : mostK e.kind = 1 := by simp [mostK, k2, k3]
                      have er : decide (0 ≤ e.n ∧ e.n ≤ 1) = decide (FdOk e) := decide_eq_decide.2 ⟨fun h => ⟨hop, hn, hy, hl5, hl, h.1, by rw [em]; exact h.2⟩, fun h => ⟨h.2.2.2.2.2.1, by have := h.2.2.2.2.2.2; rwa [em] at this⟩⟩
                      refine Run ((ai (ai (ai @eTm_eta (ai @eTy_eta @gn)) (ai (ai @ge @g7) (ai @g13 @gt))) (ai (ai @z1 (ai @z2 @z3)) (ai (ai @g5 @gl) (ai @g2 @g3))))) ?_; with_reducible repeat' (first | exact True.intro | refine Lf.mk ?_ ?_ | intro hb)
                      refine Cal ((ai @eTm_eta @eTy_eta)) (l1In_t e.n 0 1) ?_
                      refine Run ((ai @eTm_eta (ai @eTy_eta @er))) ?_; with_reducible repeat' (first | exact True.intro | refine Lf.mk ?_ ?_ | intro hb)
                    · have g3 := eq_false k3
                      have em : mostK e.kind = 0 := by simp [mostK, k2, k3]
                      have er : decide (0 ≤ e.n ∧ e.n ≤ 0) = decide (FdOk e) := decide_eq_decide.2 ⟨fun h => ⟨hop, hn, hy, hl5, hl, h.1, by rw [em]; exact h.2⟩, fun h => ⟨h.2.2.2.2.2.1, by have := h.2.2.2.2.2.2; rwa [em] at this⟩⟩
                      refine Run ((ai (ai (ai @eTm_eta (ai @eTy_eta @gn)) (ai (ai @ge @g7) (ai @g13 @gt))) (ai (ai @z1 (ai @z2 @z3)) (ai (ai @g5 @gl) (ai @g2 @g3))))) ?_; with_reducible repeat' (first | exact True.intro | refine Lf.mk ?_ ?_ | intro hb)
                      refine Cal ((ai @eTm_eta @eTy_eta)) (l1In_t e.n 0 0) ?_
                      refine Run ((ai @eTm_eta (ai @eTy_eta @er))) ?_; with_reducible repeat' (first | exact True.intro | refine Lf.mk ?_ ?_ | intro hb)
                · have gl : (0 < (e.labels.length : Int)) = True := eq_true (by omega)
                  have er := hno fun h => cl (h.2.2.2.2.1 k5)
                  refine Run ((ai (ai (ai @eTm_eta (ai @eTy_eta @gn)) (ai @ge (ai @g7 @g13))) (ai (ai @gt (ai @z1 @z2)) (ai (ai @z3 @g5) (ai @gl @er))))) ?_; with_reducible repeat' (first | exact True.intro | refine Lf.mk ?_ ?_ | intro hb)
            · have er := hno fun h => cz (by have := h.2.2.1; unfold NdTy at this; rwa [if_neg ktt] at this)
              by_cases ct : TyOk e.ty
              · have gt := eq_true ct
                refine Run ((ai (ai (ai @eTm_eta @eTy_eta) (ai @gn @ge)) (ai (ai @g7 @g13) (ai @gt @er)))) ?_; with_reducible repeat' (first | exact True.intro | refine Lf.mk ?_ ?_ | intro hb)
              · have gt := eq_false ct
                by_cases z1 : e.ty.kind = 0
                · have z1 := eq_true z1
                  by_cases z2 : 0 < (e.ty.labels.length : Int)
                  · have z2 := eq_true z2
                    refine Run ((ai (ai (ai @eTm_eta @eTy_eta) (ai @gn (ai @ge @g7))) (ai (ai @g13 @gt) (ai @z1 (ai @z2 @er))))) ?_; with_reducible repeat' (first | exact True.intro | refine Lf.mk ?_ ?_ | intro hb)
                  · have z3 : (0 < (e.ty.args.length : Int)) = True := eq_true (by have : ¬ e.ty.args.length = 0 := fun h => cz ⟨of_eq_true z1, by omega, h⟩; omega)
                    have z2 := eq_false z2
                    refine Run ((ai (ai (ai @eTm_eta @eTy_eta) (ai @gn (ai @ge @g7))) (ai (ai @g13 (ai @gt @z1)) (ai @z2 (ai @z3 @er))))) ?_; with_reducible repeat' (first | exact True.intro | refine Lf.mk ?_ ?_ | intro hb)
                · have z1 := eq_false z1
                  refine Run ((ai (ai (ai @eTm_eta @eTy_eta) (ai @gn @ge)) (ai (ai @g7 @g13) (ai @gt (ai @z1 @er))))) ?_; with_reducible repeat' (first | exact True.intro | refine Lf.mk ?_ ?_ | intro hb)
        · have ge := eq_false ce
          have er := hno fun h => by have := h.2.1; unfold NdNm at this; rw [if_neg kn] at this; exact this.elim k4 ce
          refine Run ((ai (ai @eTm_eta @eTy_eta) (ai @gn (ai @ge @er)))) ?_; with_reducible repeat' (first | exact True.intro | refine Lf.mk ?_ ?_ | intro hb)

end Go.VC.T
/- Forms of terms: the reference. -/
namespace Go.VC
open Go
theorem ar_eq {e : Tm} (h4 : e.kind = 4 → opAr e.name ≠ 0) (h5 : e.kind = 5 → LabsOk e.labels) : arK e = some e.args.length ↔ (e.args.length : Int) = arS e := by
  unfold arK arS
  by_cases a1 : e.kind = 1 ∨ e.kind = 2 ∨ e.kind = 3 ∨ e.kind = 7 ∨ e.kind = 12
  · simp only [if_pos a1, Option.some.injEq]; omega
  · simp only [if_neg a1]
    by_cases a4 : e.kind = 4
    · simp only [if_pos a4, if_neg (h4 a4), Option.some.injEq]; omega
    · simp only [if_neg a4]
      by_cases a5 : e.kind = 5
      · simp only [if_pos a5, if_pos (h5 a5), Option.some.injEq]; omega
      · simp only [if_neg a5]
        by_cases a6 : e.kind = 6 ∨ e.kind = 8 ∨ e.kind = 13 ∨ e.kind = 15 ∨ e.kind = 16
        · simp only [if_pos a6, Option.some.injEq]; omega
        · simp only [if_neg a6]
          by_cases a9 : e.kind = 9 ∨ e.kind = 10 ∨ e.kind = 14
          · simp only [if_pos a9, Option.some.injEq]; omega
          · simp only [if_neg a9]
            by_cases a11 : e.kind = 11
            · simp only [if_pos a11, Option.some.injEq]; omega
            · simp only [if_neg a11]
              constructor
              · intro h; cases h
              · intro h; omega
theorem nd_fd {e : Tm} : NdOk e ↔ FdOk e ∧ (e.args.length : Int) = arS e := by
  constructor
  · intro h
    have h4 := nd_op h
    have h5 := fun k => (nd_rec h k).1
    exact ⟨⟨h4, h.2.2.2.1, h.2.2.2.2, h5, h.2.1, h.2.2.1⟩, (ar_eq h4 h5).1 h.1⟩
  · rintro ⟨⟨h4, hn, hy, h5, hl, hm⟩, ha⟩
    exact ⟨(ar_eq h4 h5).2 ha, hl, hm, hn, hy⟩
end Go.VC
namespace Go.VC.T
open Go Go.VC Go.Proofs Go.VC.F
def fc65A97 := (ai (ai (ai (ai sz3 (ai ag3 zv3)) (ai (ai un3 sz4) (ai ag4 zv4))) (ai (ai (ai un4 sz44) (ai ag44 zv44)) (ai (ai sb44 un44) (ai el44 ap44)))) (ai (ai (ai (ai sz46 ag46) (ai zv46 fl46_0)) (ai (ai fl46_1 fl46_2) (ai fl46_3 fl46_4))) (ai (ai (ai fl46_5 pl46) (ai okf65 okf88)) (ai (ai okf89 sz9) (ai sz43 sz25)))))
theorem l7Form_of (t : Tm) (h : okTm (2^20) t) (hz : zTm t ≤ 2^40) (H : ∀ u ∈ t.args, FnP Tryz.prog 65 [agT (eTm u)] (bT (decide (TmF u)))) : FnS Tryz.prog 65 [] [agT (eTm t)] [] (bT (decide (TmF t))) := by
  refine FnS.go [0, 1, 2, 3, 8, 17] [] Tryz.func65 rfl (fun kt kz => ?_)
  have fcx := fc65A97
  simp only [Tryz.f65]
  have ho := okTm_iff.1 h
  have hln := ho.2.2.2.2.2.1
  have hno : ¬ TmF t → decide (TmF t) = false := decide_eq_false
  refine Run ((ai @eTm_eta @eTy_eta)) ?_; with_reducible repeat' (first | exact True.intro | refine Lf.mk ?_ ?_ | intro hb)
  refine Trn (α := Nat) [2, 3, 4, 5, 6, 7, 8, 9, 10, 11, 12, 13, 14, 15, 16, 17] (fun i => [(3, iT i)]) (fun i => [(2, .box 46 ((eTm t).map .im))]) (fun i => i ≤ t.args.length ∧ ∀ a ∈ t.args.take i, TmF a) (fun i => t.args.length - i) (0) (⟨Nat.zero_le _, fun s hs => by simp at hs⟩) ((ai @eTm_eta @eTy_eta)) ?_; intro lx hI; obtain i := lx; (try simp only [List.nil_append, List.cons_append] at hI ⊢)
  by_cases hlt : lx < t.args.length
  · refine Run ((ai @eTm_eta (ai @eTy_eta @hlt))) ?_; with_reducible repeat' (first | exact True.intro | refine Lf.mk ?_ ?_ | intro hb)
    refine Cal ((ai @eTm_eta @eTy_eta)) (H _ (List.getElem_mem hlt)) ?_
    by_cases hf : TmF t.args[lx]
    · have gf := eq_true hf
      refine Run ((ai @eTm_eta (ai @eTy_eta @gf))) ?_; with_reducible repeat' (first | exact True.intro | refine Lf.mk ?_ ?_ | intro hb)
      exact Nxt ((ai @eTm_eta @eTy_eta)) (lx + 1) (⟨by omega, ball_take hlt hI.2 hf⟩) (by first | omega | (simp; omega))
    · have gf := eq_false hf
      have e := hno fun h => hf ((TmF_eta t).1 h |>.2 _ (List.getElem_mem hlt))
      refine Run ((ai (ai @eTm_eta @eTy_eta) (ai @gf @e))) ?_; with_reducible repeat' (first | exact True.intro | refine Lf.mk ?_ ?_ | intro hb)
  · have hall : ∀ a ∈ t.args, TmF a := ball_end (by omega) hI.2
    refine Run ((ai @eTm_eta (ai @eTy_eta @hlt))) ?_; with_reducible repeat' (first | exact True.intro | refine Lf.mk ?_ ?_ | intro hb)
    refine Cal ((ai @eTm_eta @eTy_eta)) (l7Fields_ok t h hz) ?_
    by_cases hd : FdOk t
    · have gd := eq_true hd
      have e : decide ((t.args.length : Int) = arS t) = decide (TmF t) := decide_eq_decide.2 ⟨fun h => (TmF_eta t).2 ⟨nd_fd.2 ⟨hd, h⟩, hall⟩, fun h => (nd_fd.1 ((TmF_eta t).1 h).1).2⟩
      refine Run ((ai @eTm_eta (ai @eTy_eta @gd))) ?_; with_reducible repeat' (first | exact True.intro | refine Lf.mk ?_ ?_ | intro hb)
      refine Cal ((ai @eTm_eta @eTy_eta)) (l7Arity_ok t h) ?_
      refine Run ((ai @eTm_eta (ai @eTy_eta @e))) ?_; with_reducible repeat' (first | exact True.intro | refine Lf.mk ?_ ?_ | intro hb)
    · have gd := eq_false hd
      have e := hno fun h => hd (nd_fd.1 ((TmF_eta t).1 h).1).1
      refine Run ((ai (ai @eTm_eta @eTy_eta) (ai @gd @e))) ?_; with_reducible repeat' (first | exact True.intro | refine Lf.mk ?_ ?_ | intro hb)

theorem l7Form_ok (t : Tm) (h : okTm (2^20) t) (hz : zTm t ≤ 2^40) : FnP Tryz.prog 65 [agT (eTm t)] (bT (decide (TmF t))) :=
  l7Form_of t h hz fun u hu => l7Form_ok u ((okTm_iff.1 h).2.2.2.2.2.2 u hu) (by have := zTm_arg hu; omega)
termination_by SizeOf.sizeOf t
decreasing_by exact Tm.mem hu
end Go.VC.T
/- What types terms have: the reference, leaves. -/
namespace Go.VC.T
open Go Go.VC Go.Proofs Go.VC.F
def fc107A98 := (ai (ai (ai (ai (ai sz3 (ai ag3 zv3)) (ai un3 (ai sz4 ag4))) (ai (ai zv4 (ai un4 sz9)) (ai ag9 (ai zv9 un9)))) (ai (ai (ai sz39 (ai ag39 zv39)) (ai fl39_0 (ai pl39 sz43))) (ai (ai ag43 (ai zv43 fl43_0)) (ai (ai fl43_1 fl43_2) (ai pl43 sz46))))) (ai (ai (ai (ai ag46 (ai zv46 fl46_0)) (ai fl46_1 (ai fl46_2 fl46_3))) (ai (ai fl46_4 (ai fl46_5 pl46)) (ai sz70 (ai ag70 zv70)))) (ai (ai (ai sb70 (ai un70 el70)) (ai ap70 (ai okf23 okf30))) (ai (ai okf46 (ai okf122 okf123)) (ai (ai sz37 sz25) (ai sz41 sz44))))))
theorem leaf1_of (s ctx : List Decl) (hc : ctx.length ≤ 2^40) (hoc : ∀ d ∈ ctx, okTy (2^20) d.row) (e : Tm) (k : e.kind = 1) : FnS Tryz.prog 107 [] [agT (eSch s), slT eDecl ctx, agT (eTm e)] [] (.tp [agT (eTy ((lookT ctx e.name).getD ty0)), bT (lookT ctx e.name).isSome]) := by
  refine FnS.go [0, 1, 2, 3, 5, 6, 7, 8, 9, 10, 11, 13, 14, 25, 28, 31] [] Tryz.func107 rfl (fun kt kz => ?_)
  have fcx := fc107A98
  simp only [Tryz.f107]
  have hh := look_ok ctx hc hoc e.name
  generalize lookT ctx e.name = L at *
  refine Run ((ai (ai @eSch_eta @eTm_eta) (ai @eTy_eta @k))) ?_; with_reducible repeat' (first | exact True.intro | refine Lf.mk ?_ ?_ | intro hb)
  refine CalI ((ai @eTm_eta @eTy_eta)) (hh) ?_
  refine Run ((ai @eTm_eta @eTy_eta)) ?_; with_reducible repeat' (first | exact True.intro | refine Lf.mk ?_ ?_ | intro hb)
  refine ⟨rfl, rfl, ?_⟩
  refine Run ((ai @eTm_eta @eTy_eta)) ?_; with_reducible repeat' (first | exact True.intro | refine Lf.mk ?_ ?_ | intro hb)
theorem leaf2_of (s ctx : List Decl) (e : Tm) (k : e.kind = 2) : FnS Tryz.prog 107 [] [agT (eSch s), slT eDecl ctx, agT (eTm e)] [] (.tp [agT (eTy tInt), bT true]) := by
  refine FnS.go [0, 1, 2, 3, 5, 6, 7, 8, 9, 10, 11, 13, 14, 25, 28, 31] [] Tryz.func107 rfl (fun kt kz => ?_)
  have fcx := fc107A98
  simp only [Tryz.f107]
  refine Run ((ai (ai @eSch_eta @eTm_eta) (ai @eTy_eta @k))) ?_; with_reducible repeat' (first | exact True.intro | refine Lf.mk ?_ ?_ | intro hb)
  refine CalI ((ai @eTm_eta @eTy_eta)) (sInt_t) ?_
  refine Run ((ai @eTm_eta @eTy_eta)) ?_; with_reducible repeat' (first | exact True.intro | refine Lf.mk ?_ ?_ | intro hb)
theorem leaf3_of (s ctx : List Decl) (e : Tm) (k : e.kind = 3) : FnS Tryz.prog 107 [] [agT (eSch s), slT eDecl ctx, agT (eTm e)] [] (.tp [agT (eTy tBool), bT true]) := by
  refine FnS.go [0, 1, 2, 3, 5, 6, 7, 8, 9, 10, 11, 13, 14, 25, 28, 31] [] Tryz.func107 rfl (fun kt kz => ?_)
  have fcx := fc107A98
  simp only [Tryz.f107]
  refine Run ((ai (ai @eSch_eta @eTm_eta) (ai @eTy_eta @k))) ?_; with_reducible repeat' (first | exact True.intro | refine Lf.mk ?_ ?_ | intro hb)
  refine CalI ((ai @eTm_eta @eTy_eta)) (sBool_t) ?_
  refine Run ((ai @eTm_eta @eTy_eta)) ?_; with_reducible repeat' (first | exact True.intro | refine Lf.mk ?_ ?_ | intro hb)
theorem leaf7_of (s ctx : List Decl) (e : Tm) (k : e.kind = 7) (h : okTy (2^20) e.ty) : FnS Tryz.prog 107 [] [agT (eSch s), slT eDecl ctx, agT (eTm e)] [] (.tp [agT (eTy (tBag e.ty)), bT true]) := by
  refine FnS.go [0, 1, 2, 3, 5, 6, 7, 8, 9, 10, 11, 13, 14, 25, 28, 31] [] Tryz.func107 rfl (fun kt kz => ?_)
  have fcx := fc107A98
  simp only [Tryz.f107]
  refine Run ((ai (ai @eSch_eta @eTm_eta) (ai @eTy_eta @k))) ?_; with_reducible repeat' (first | exact True.intro | refine Lf.mk ?_ ?_ | intro hb)
  refine CalI ((ai @eTm_eta @eTy_eta)) (sBag_t e.ty h) ?_
  refine Run ((ai @eTm_eta @eTy_eta)) ?_; with_reducible repeat' (first | exact True.intro | refine Lf.mk ?_ ?_ | intro hb)

end Go.VC.T
/- What types terms have: the reference, tables, plain forms. -/
namespace Go.VC.T
open Go Go.VC Go.Proofs Go.VC.F
def fc107A99 := (ai (ai (ai (ai (ai sz3 (ai ag3 zv3)) (ai un3 (ai sz4 ag4))) (ai (ai zv4 (ai un4 sz9)) (ai ag9 (ai zv9 un9)))) (ai (ai (ai sz39 (ai ag39 zv39)) (ai fl39_0 (ai pl39 sz43))) (ai (ai ag43 (ai zv43 fl43_0)) (ai (ai fl43_1 fl43_2) (ai pl43 sz46))))) (ai (ai (ai (ai ag46 (ai zv46 fl46_0)) (ai fl46_1 (ai fl46_2 fl46_3))) (ai (ai fl46_4 (ai fl46_5 pl46)) (ai sz70 (ai ag70 zv70)))) (ai (ai (ai sb70 (ai un70 el70)) (ai ap70 (ai okf23 okf30))) (ai (ai okf46 (ai okf122 okf123)) (ai (ai sz37 sz25) (ai sz41 sz44))))))
theorem leaf12_of (s ctx : List Decl) (hs : okSch (2^20) s) (e : Tm) (k : e.kind = 12) (hob : okTy (2^20) ((rowT s e.name).getD ty0)) : FnS Tryz.prog 107 [] [agT (eSch s), slT eDecl ctx, agT (eTm e)] [] (.tp [agT (eTy (tBag ((rowT s e.name).getD ty0))), bT (rowT s e.name).isSome]) := by
  refine FnS.go [0, 1, 2, 3, 5, 6, 7, 8, 9, 10, 11, 13, 14, 25, 28, 31] [] Tryz.func107 rfl (fun kt kz => ?_)
  have fcx := fc107A99
  simp only [Tryz.f107]
  have hh := specRowT_ok s hs e.name
  generalize rowT s e.name = L at *
  refine Run ((ai (ai @eSch_eta @eTm_eta) (ai @eTy_eta @k))) ?_; with_reducible repeat' (first | exact True.intro | refine Lf.mk ?_ ?_ | intro hb)
  refine CalI ((ai @eSch_eta (ai @eTm_eta @eTy_eta))) (hh) ?_
  refine Run ((ai @eSch_eta (ai @eTm_eta @eTy_eta))) ?_; with_reducible repeat' (first | exact True.intro | refine Lf.mk ?_ ?_ | intro hb)
  refine ⟨rfl, rfl, ?_⟩
  refine Run ((ai @eTm_eta @eTy_eta)) ?_; with_reducible repeat' (first | exact True.intro | refine Lf.mk ?_ ?_ | intro hb)
  refine CalI ((ai @eTm_eta @eTy_eta)) (sBag_t (L.getD ty0) hob) ?_
  refine Run ((ai @eTm_eta @eTy_eta)) ?_; with_reducible repeat' (first | exact True.intro | refine Lf.mk ?_ ?_ | intro hb)

end Go.VC.T
/- What types terms have: the reference, a term by its form. -/
namespace Go.VC.T
open Go Go.VC Go.Proofs Go.VC.F
def fc67A100 := (ai (ai (ai (ai (ai sz4 ag4) (ai zv4 (ai un4 sz39))) (ai (ai ag39 zv39) (ai fl39_0 (ai pl39 sz43)))) (ai (ai (ai ag43 zv43) (ai fl43_0 (ai fl43_1 fl43_2))) (ai (ai pl43 sz46) (ai ag46 (ai zv46 fl46_0))))) (ai (ai (ai (ai fl46_1 fl46_2) (ai fl46_3 (ai fl46_4 fl46_5))) (ai (ai pl46 sz70) (ai ag70 (ai zv70 sb70)))) (ai (ai (ai un70 el70) (ai ap70 (ai okf64 okf90))) (ai (ai sz37 (ai sz3 sz25)) (ai sz41 (ai sz9 sz44))))))
theorem sType_a (s ctx : List Decl) (e : Tm) (t : Ty) (ht : TyOk t) (H : FnP Tryz.prog 90 [agT (eSch s), slT eDecl ctx, agT (eTm e)] (.tp [agT (eTy t), bT true])) : FnS Tryz.prog 67 [] [agT (eSch s), slT eDecl ctx, agT (eTm e)] [] (.tp [agT (eTy t), bT true]) := by
  refine FnS.go [0, 1, 2, 3, 5, 6, 7, 8, 9, 23] [] Tryz.func67 rfl (fun kt kz => ?_)
  have fcx := fc67A100
  simp only [Tryz.f67]
  have gt := eq_true ht
  refine Run ((ai @eSch_eta (ai @eTm_eta @eTy_eta))) ?_; with_reducible repeat' (first | exact True.intro | refine Lf.mk ?_ ?_ | intro hb)
  refine CalI ((ai @eSch_eta (ai @eTm_eta @eTy_eta))) (H) ?_
  refine Run ((ai @eSch_eta (ai @eTm_eta @eTy_eta))) ?_; with_reducible repeat' (first | exact True.intro | refine Lf.mk ?_ ?_ | intro hb)
  refine ⟨rfl, rfl, ?_⟩
  refine Run ((ai @eTm_eta @eTy_eta)) ?_; with_reducible repeat' (first | exact True.intro | refine Lf.mk ?_ ?_ | intro hb)
  refine Cal (@eTy_eta) (specTyOk_ok t ht.ok (by have := ht.z; omega)) ?_
  refine Run ((ai @eTm_eta (ai @eTy_eta @gt))) ?_; with_reducible repeat' (first | exact True.intro | refine Lf.mk ?_ ?_ | intro hb)
theorem sType_b (s ctx : List Decl) (e : Tm) (t : Ty) (ht : ¬ TyOk t) (ho : okTy (2^20) t) (hz : zTy t ≤ 2^40) (H : FnP Tryz.prog 90 [agT (eSch s), slT eDecl ctx, agT (eTm e)] (.tp [agT (eTy t), bT true])) : FnS Tryz.prog 67 [] [agT (eSch s), slT eDecl ctx, agT (eTm e)] [] (.tp [.ag [.im (.sc (.int .i64 0)), .nl, .nl], bT false]) := by
  refine FnS.go [0, 1, 2, 3, 5, 6, 7, 8, 9, 23] [] Tryz.func67 rfl (fun kt kz => ?_)
  have fcx := fc67A100
  simp only [Tryz.f67]
  have gt := eq_false ht
  refine Run ((ai @eSch_eta (ai @eTm_eta @eTy_eta))) ?_; with_reducible repeat' (first | exact True.intro | refine Lf.mk ?_ ?_ | intro hb)
  refine CalI ((ai @eSch_eta (ai @eTm_eta @eTy_eta))) (H) ?_
  refine Run ((ai @eSch_eta (ai @eTm_eta @eTy_eta))) ?_; with_reducible repeat' (first | exact True.intro | refine Lf.mk ?_ ?_ | intro hb)
  refine ⟨rfl, rfl, ?_⟩
  refine Run ((ai @eTm_eta @eTy_eta)) ?_; with_reducible repeat' (first | exact True.intro | refine Lf.mk ?_ ?_ | intro hb)
  refine Cal (@eTy_eta) (specTyOk_ok t ho hz) ?_
  refine Run ((ai @eTm_eta (ai @eTy_eta @gt))) ?_; with_reducible repeat' (first | exact True.intro | refine Lf.mk ?_ ?_ | intro hb)
theorem sType_c (s ctx : List Decl) (e : Tm) (t : Ty) (H : FnP Tryz.prog 90 [agT (eSch s), slT eDecl ctx, agT (eTm e)] (.tp [agT (eTy t), bT false])) : FnS Tryz.prog 67 [] [agT (eSch s), slT eDecl ctx, agT (eTm e)] [] (.tp [.ag [.im (.sc (.int .i64 0)), .nl, .nl], bT false]) := by
  refine FnS.go [0, 1, 2, 3, 5, 6, 7, 8, 9, 23] [] Tryz.func67 rfl (fun kt kz => ?_)
  have fcx := fc67A100
  simp only [Tryz.f67]
  refine Run ((ai @eSch_eta (ai @eTm_eta @eTy_eta))) ?_; with_reducible repeat' (first | exact True.intro | refine Lf.mk ?_ ?_ | intro hb)
  refine CalI ((ai @eSch_eta (ai @eTm_eta @eTy_eta))) (H) ?_
  refine Run ((ai @eSch_eta (ai @eTm_eta @eTy_eta))) ?_; with_reducible repeat' (first | exact True.intro | refine Lf.mk ?_ ?_ | intro hb)
  refine ⟨rfl, rfl, ?_⟩
  refine Run ((ai @eTm_eta @eTy_eta)) ?_; with_reducible repeat' (first | exact True.intro | refine Lf.mk ?_ ?_ | intro hb)

end Go.VC.T
/- What types terms have: the reference, forms that bind nothing. -/
namespace Go.VC.T
open Go Go.VC Go.Proofs Go.VC.F
def fc108A101 := (ai (ai (ai (ai (ai sz3 (ai ag3 zv3)) (ai un3 (ai sz4 ag4))) (ai (ai zv4 (ai un4 sz9)) (ai (ai ag9 zv9) (ai un9 sz25)))) (ai (ai (ai ag25 (ai zv25 sb25)) (ai un25 (ai el25 ap25))) (ai (ai sz41 (ai ag41 zv41)) (ai (ai sb41 un41) (ai el41 ap41))))) (ai (ai (ai (ai sz43 (ai ag43 zv43)) (ai fl43_0 (ai fl43_1 fl43_2))) (ai (ai pl43 (ai sz46 ag46)) (ai (ai zv46 fl46_0) (ai fl46_1 fl46_2)))) (ai (ai (ai fl46_3 (ai fl46_4 fl46_5)) (ai pl46 (ai okf28 okf30))) (ai (ai okf46 (ai okf47 okf61)) (ai (ai okf68 okf123) (ai okf124 sz44))))))
theorem sf4_of (e : Tm) (ts : List Ty) (k : e.kind = 4) (t' : Ty) (b : Bool) (H : FnP Tryz.prog 124 [sT e.name, slT eTy ts] (.tp [agT (eTy t'), bT b])) : FnS Tryz.prog 108 [] [agT (eTm e), slT eTy ts] [] (.tp [agT (eTy t'), bT b]) := by
  refine FnS.go [0, 1, 2, 4, 5, 6, 7, 8, 9, 11, 12, 23, 29, 42, 48, 67, 86, 104, 112, 120] [] Tryz.func108 rfl (fun kt kz => ?_)
  have fcx := fc108A101
  simp only [Tryz.f108]
  refine Run ((ai @eTm_eta (ai @eTy_eta @k))) ?_; with_reducible repeat' (first | exact True.intro | refine Lf.mk ?_ ?_ | intro hb)
  refine CalI ((ai @eTm_eta @eTy_eta)) (H) ?_
  refine Run ((ai @eTm_eta @eTy_eta)) ?_; with_reducible repeat' (first | exact True.intro | refine Lf.mk ?_ ?_ | intro hb)
  refine ⟨rfl, rfl, ?_⟩
  refine Run ((ai @eTm_eta @eTy_eta)) ?_; with_reducible repeat' (first | exact True.intro | refine Lf.mk ?_ ?_ | intro hb)
theorem sf5_of (e : Tm) (hl : e.labels.length ≤ 2^20) (ts : List Ty) (ho : okLs (2^20) okTy ts) (k : e.kind = 5) : FnS Tryz.prog 108 [] [agT (eTm e), slT eTy ts] [] (.tp [agT (eTy (tRec e.labels ts)), bT true]) := by
  refine FnS.go [0, 1, 2, 4, 5, 6, 7, 8, 9, 11, 12, 23, 29, 42, 48, 67, 86, 104, 112, 120] [] Tryz.func108 rfl (fun kt kz => ?_)
  have fcx := fc108A101
  simp only [Tryz.f108]
  have hh : FnP Tryz.prog 47 [slT eS e.labels, slT eTy ts] (agT (eTy (tRec e.labels ts))) := l3Rec_t e.labels hl ts ho
  refine Run ((ai @eTm_eta (ai @eTy_eta @k))) ?_; with_reducible repeat' (first | exact True.intro | refine Lf.mk ?_ ?_ | intro hb)
  refine CalI ((ai @eTm_eta @eTy_eta)) (hh) ?_
  refine Run ((ai @eTm_eta @eTy_eta)) ?_; with_reducible repeat' (first | exact True.intro | refine Lf.mk ?_ ?_ | intro hb)
theorem sf8_of (e : Tm) (ts : List Ty) (k : e.kind = 8) (h0 : 0 < ts.length) (ho : okTy (2^20) ts[0]) : FnS Tryz.prog 108 [] [agT (eTm e), slT eTy ts] [] (.tp [agT (eTy (tBag ts[0])), bT true]) := by
  refine FnS.go [0, 1, 2, 4, 5, 6, 7, 8, 9, 11, 12, 23, 29, 42, 48, 67, 86, 104, 112, 120] [] Tryz.func108 rfl (fun kt kz => ?_)
  have fcx := fc108A101
  simp only [Tryz.f108]
  refine Run ((ai (ai @eTm_eta @eTy_eta) (ai @k @h0))) ?_; with_reducible repeat' (first | exact True.intro | refine Lf.mk ?_ ?_ | intro hb)
  refine CalI ((ai @eTm_eta @eTy_eta)) (sBag_t ts[0] ho) ?_
  refine Run ((ai @eTm_eta @eTy_eta)) ?_; with_reducible repeat' (first | exact True.intro | refine Lf.mk ?_ ?_ | intro hb)

end Go.VC.T
/- What types terms have: the reference, forms that compare, that ask. -/
namespace Go.VC.T
open Go Go.VC Go.Proofs Go.VC.F
def fc108A102 := (ai (ai (ai (ai (ai sz3 (ai ag3 zv3)) (ai un3 (ai sz4 ag4))) (ai (ai zv4 (ai un4 sz9)) (ai (ai ag9 zv9) (ai un9 sz25)))) (ai (ai (ai ag25 (ai zv25 sb25)) (ai un25 (ai el25 ap25))) (ai (ai sz41 (ai ag41 zv41)) (ai (ai sb41 un41) (ai el41 ap41))))) (ai (ai (ai (ai sz43 (ai ag43 zv43)) (ai fl43_0 (ai fl43_1 fl43_2))) (ai (ai pl43 (ai sz46 ag46)) (ai (ai zv46 fl46_0) (ai fl46_1 fl46_2)))) (ai (ai (ai fl46_3 (ai fl46_4 fl46_5)) (ai pl46 (ai okf28 okf30))) (ai (ai okf46 (ai okf47 okf61)) (ai (ai okf68 okf123) (ai okf124 sz44))))))
theorem sf9_of (e : Tm) (ts : List Ty) (ho : ∀ t ∈ ts, okTy (2^20) t) (k : e.kind = 9) (h0 : 0 < ts.length) (h1 : 1 < ts.length) (b : Bool) (hb : b = decide (ts[0].kind = 4 ∧ ts[0] = ts[1])) : FnS Tryz.prog 108 [] [agT (eTm e), slT eTy ts] [] (.tp [agT (eTy ts[0]), bT b]) := by
  refine FnS.go [0, 1, 2, 4, 5, 6, 7, 8, 9, 11, 12, 23, 29, 42, 48, 67, 86, 104, 112, 120] [] Tryz.func108 rfl (fun kt kz => ?_)
  have fcx := fc108A102
  simp only [Tryz.f108]
  have dq : Dq [0, 1, 2, 3, 4, 5, 6, 7, 8, 9, 10, 11, 12, 13, 14, 15, 16] [17, 18] 40 [[16], []] := ⟨⟩
  by_cases c : ts[0].kind = 4
  · have gc := eq_true c
    have e1 : decide (ts[0] = ts[1]) = b := by rw [hb]; exact decide_eq_decide.2 ⟨fun h => ⟨c, h⟩, fun h => h.2⟩
    refine RunX ((ai (ai @eTm_eta (ai @eTy_eta @k)) (ai @h0 (ai @h1 @gc)))) ?_; with_reducible repeat' (first | exact True.intro | refine Lf.mk ?_ ?_ | intro hb)
    refine Cal ((ai @eTm_eta (ai @eTy_eta @gc))) (specEqTy_ok ts[0] ts[1] (ho _ (List.getElem_mem h0)) (ho _ (List.getElem_mem h1))) ?_
    refine RunX ((ai (ai @eTm_eta @eTy_eta) (ai @e1 @gc))) ?_; with_reducible repeat' (first | exact True.intro | refine Lf.mk ?_ ?_ | intro hb)
  · have gc := eq_false c
    have e1 : b = false := by rw [hb]; exact decide_eq_false fun h => c h.1
    refine RunX ((ai (ai @eTm_eta (ai @eTy_eta @k)) (ai (ai @h0 @h1) (ai @gc @e1)))) ?_; with_reducible repeat' (first | exact True.intro | refine Lf.mk ?_ ?_ | intro hb)
    refine ⟨rfl, ?_⟩
    refine RunX ((ai @eTm_eta (ai @eTy_eta @e1))) ?_; with_reducible repeat' (first | exact True.intro | refine Lf.mk ?_ ?_ | intro hb)
theorem sf11_of (e : Tm) (ts : List Ty) (ho : ∀ t ∈ ts, okTy (2^20) t) (k : e.kind = 11) (h0 : 0 < ts.length) (h1 : 1 < ts.length) (h2 : 2 < ts.length) (b : Bool) (hb : b = decide (ts[0].kind = 2 ∧ ts[1] = ts[2])) : FnS Tryz.prog 108 [] [agT (eTm e), slT eTy ts] [] (.tp [agT (eTy ts[1]), bT b]) := by
  refine FnS.go [0, 1, 2, 4, 5, 6, 7, 8, 9, 11, 12, 23, 29, 42, 48, 67, 86, 104, 112, 120] [] Tryz.func108 rfl (fun kt kz => ?_)
  have fcx := fc108A102
  simp only [Tryz.f108]
  have dq : Dq [0, 1, 2, 3, 4, 5, 6, 7, 8, 9, 10, 11, 12, 13, 14, 15, 16] [17, 18] 40 [[16], []] := ⟨⟩
  by_cases c : ts[0].kind = 2
  · have gc := eq_true c
    have e1 : decide (ts[1] = ts[2]) = b := by rw [hb]; exact decide_eq_decide.2 ⟨fun h => ⟨c, h⟩, fun h => h.2⟩
    refine RunX ((ai (ai @eTm_eta (ai @eTy_eta @k)) (ai (ai @h0 @h1) (ai @h2 @gc)))) ?_; with_reducible repeat' (first | exact True.intro | refine Lf.mk ?_ ?_ | intro hb)
    refine Cal ((ai @eTm_eta (ai @eTy_eta @gc))) (specEqTy_ok ts[1] ts[2] (ho _ (List.getElem_mem h1)) (ho _ (List.getElem_mem h2))) ?_
    refine RunX ((ai (ai @eTm_eta @eTy_eta) (ai @e1 @gc))) ?_; with_reducible repeat' (first | exact True.intro | refine Lf.mk ?_ ?_ | intro hb)
  · have gc := eq_false c
    have e1 : b = false := by rw [hb]; exact decide_eq_false fun h => c h.1
    refine RunX ((ai (ai (ai @eTm_eta @eTy_eta) (ai @k @h0)) (ai (ai @h1 @h2) (ai @gc @e1)))) ?_; with_reducible repeat' (first | exact True.intro | refine Lf.mk ?_ ?_ | intro hb)
    refine ⟨rfl, ?_⟩
    refine RunX ((ai @eTm_eta (ai @eTy_eta @e1))) ?_; with_reducible repeat' (first | exact True.intro | refine Lf.mk ?_ ?_ | intro hb)
theorem sf15_of (e : Tm) (ts : List Ty) (k : e.kind = 15) (h0 : 0 < ts.length) : FnS Tryz.prog 108 [] [agT (eTm e), slT eTy ts] [] (.tp [agT (eTy tBool), bT (decide (ts[0].kind = 4))]) := by
  refine FnS.go [0, 1, 2, 4, 5, 6, 7, 8, 9, 11, 12, 23, 29, 42, 48, 67, 86, 104, 112, 120] [] Tryz.func108 rfl (fun kt kz => ?_)
  have fcx := fc108A102
  simp only [Tryz.f108]
  have dq : Dq [0, 1, 2, 3, 4, 5] [6, 7] 20 [[1, 2, 3, 4, 5], []] := ⟨⟩
  refine RunX ((ai (ai @eTm_eta @eTy_eta) (ai @k @h0))) ?_; with_reducible repeat' (first | exact True.intro | refine Lf.mk ?_ ?_ | intro hb)
  refine CalI ((ai @eTm_eta @eTy_eta)) (sBool_t) ?_
  refine RunX ((ai @eTm_eta (ai @eTy_eta @h0))) ?_; with_reducible repeat' (first | exact True.intro | refine Lf.mk ?_ ?_ | intro hb)
theorem sf16_of (e : Tm) (ts : List Ty) (k : e.kind = 16) (h0 : 0 < ts.length) : FnS Tryz.prog 108 [] [agT (eTm e), slT eTy ts] [] (.tp [agT (eTy tInt), bT (decide (ts[0].kind = 4))]) := by
  refine FnS.go [0, 1, 2, 4, 5, 6, 7, 8, 9, 11, 12, 23, 29, 42, 48, 67, 86, 104, 112, 120] [] Tryz.func108 rfl (fun kt kz => ?_)
  have fcx := fc108A102
  simp only [Tryz.f108]
  have dq : Dq [0, 1, 2, 3, 4, 5] [6, 7] 20 [[1, 2, 3, 4, 5], []] := ⟨⟩
  refine RunX ((ai (ai @eTm_eta @eTy_eta) (ai @k @h0))) ?_; with_reducible repeat' (first | exact True.intro | refine Lf.mk ?_ ?_ | intro hb)
  refine CalI ((ai @eTm_eta @eTy_eta)) (sInt_t) ?_
  refine RunX ((ai @eTm_eta (ai @eTy_eta @h0))) ?_; with_reducible repeat' (first | exact True.intro | refine Lf.mk ?_ ?_ | intro hb)

end Go.VC.T
/- What types terms have: the reference, fields, applications, forms that bind. -/
namespace Go.VC.T
open Go Go.VC Go.Proofs Go.VC.F
def fc108A103 := (ai (ai (ai (ai (ai sz3 (ai ag3 zv3)) (ai un3 (ai sz4 ag4))) (ai (ai zv4 (ai un4 sz9)) (ai (ai ag9 zv9) (ai un9 sz25)))) (ai (ai (ai ag25 (ai zv25 sb25)) (ai un25 (ai el25 ap25))) (ai (ai sz41 (ai ag41 zv41)) (ai (ai sb41 un41) (ai el41 ap41))))) (ai (ai (ai (ai sz43 (ai ag43 zv43)) (ai fl43_0 (ai fl43_1 fl43_2))) (ai (ai pl43 (ai sz46 ag46)) (ai (ai zv46 fl46_0) (ai fl46_1 fl46_2)))) (ai (ai (ai fl46_3 (ai fl46_4 fl46_5)) (ai pl46 (ai okf28 okf30))) (ai (ai okf46 (ai okf47 okf61)) (ai (ai okf68 okf123) (ai okf124 sz44))))))
theorem sf6_of (e : Tm) (ts : List Ty) (k : e.kind = 6) (h0 : 0 < ts.length) (t' : Ty) (b : Bool) (H : FnP Tryz.prog 28 [agT (eTy ts[0]), sT e.name] (.tp [agT (eTy t'), bT b])) : FnS Tryz.prog 108 [] [agT (eTm e), slT eTy ts] [] (.tp [agT (eTy t'), bT b]) := by
  refine FnS.go [0, 1, 2, 4, 5, 6, 7, 8, 9, 11, 12, 23, 29, 42, 48, 67, 86, 104, 112, 120] [] Tryz.func108 rfl (fun kt kz => ?_)
  have fcx := fc108A103
  simp only [Tryz.f108]
  refine RunX ((ai (ai @eTm_eta @eTy_eta) (ai @k @h0))) ?_; with_reducible repeat' (first | exact True.intro | refine Lf.mk ?_ ?_ | intro hb)
  refine Sm.drawYK [0, 1, 2, 3, 4, 5, 6, 7, 8] 9 8 40 [(10, [], [8]), (11, [10], [])] mixed (by decide +kernel) (by simp only [get_cons, get_nil, ↓reduceIte, Nat.reduceMul, Nat.reduceEqDiff, Option.isSome_none, Option.isSome_some]) (by (simp only [List.getElem?_toArray, List.getElem?_cons_succ, List.getElem?_cons_zero]); exact rfl) (by (simp only [List.filterMap_cons, List.filterMap_nil, List.getElem?_toArray, List.getElem?_cons_succ, List.getElem?_cons_zero]); exact rfl) (by (simp only [List.filterMap_cons, List.filterMap_nil, List.getElem?_toArray, List.getElem?_cons_succ, List.getElem?_cons_zero]); exact rfl) rfl ?_; refine RunX ((ai (ai @eTm_eta @eTy_eta) (ai @k @h0))) ?_; with_reducible repeat' (first | exact True.intro | refine Lf.mk ?_ ?_ | intro hb)
  refine CalI ((ai @eTm_eta @eTy_eta)) (H) ?_
  refine RunX ((ai @eTm_eta @eTy_eta)) ?_; with_reducible repeat' (first | exact True.intro | refine Lf.mk ?_ ?_ | intro hb)
  refine ⟨rfl, rfl, ?_⟩
  refine RunX ((ai @eTm_eta @eTy_eta)) ?_; with_reducible repeat' (first | exact True.intro | refine Lf.mk ?_ ?_ | intro hb)
theorem sf14_a (e : Tm) (ts : List Ty) (ho : ∀ t ∈ ts, okTy (2^20) t) (k : e.kind = 14) (h0 : 0 < ts.length) (h1 : 1 < ts.length) (c : ts[0].kind = 5) (a0 : 0 < ts[0].args.length) (a1 : 1 < ts[0].args.length) (he : ts[0].args[0] = ts[1]) : FnS Tryz.prog 108 [] [agT (eTm e), slT eTy ts] [] (.tp [agT (eTy ts[0].args[1]), bT true]) := by
  refine FnS.go [0, 1, 2, 4, 5, 6, 7, 8, 9, 11, 12, 23, 29, 42, 48, 67, 86, 104, 112, 120] [] Tryz.func108 rfl (fun kt kz => ?_)
  have fcx := fc108A103
  simp only [Tryz.f108]
  have gc := eq_true c
  have ge := eq_true he
  have o0 := okTy_iff.1 (ho _ (List.getElem_mem h0))
  refine Run ((ai (ai (ai @eTm_eta @eTy_eta) (ai @k @h0)) (ai (ai @h1 @a0) (ai @a1 @gc)))) ?_; with_reducible repeat' (first | exact True.intro | refine Lf.mk ?_ ?_ | intro hb)
  refine Cal ((ai @eTm_eta (ai @eTy_eta @gc))) (specEqTy_ok ts[0].args[0] ts[1] (o0.2.2.2 _ (List.getElem_mem a0)) (ho _ (List.getElem_mem h1))) ?_
  refine Run ((ai (ai (ai @eTm_eta @eTy_eta) (ai @ge @gc)) (ai (ai @h0 @h1) (ai @a0 @a1)))) ?_; with_reducible repeat' (first | exact True.intro | refine Lf.mk ?_ ?_ | intro hb)
  refine CalI (@eTy_eta) (l3Copy_ok ts[0].args[1] (o0.2.2.2 _ (List.getElem_mem a1))) ?_
  refine Run (@eTy_eta) ?_; with_reducible repeat' (first | exact True.intro | refine Lf.mk ?_ ?_ | intro hb)
theorem sf14_b (e : Tm) (ts : List Ty) (ho : ∀ t ∈ ts, okTy (2^20) t) (k : e.kind = 14) (h0 : 0 < ts.length) (h1 : 1 < ts.length) (c : ts[0].kind = 5) (a0 : 0 < ts[0].args.length) (he : ¬ ts[0].args[0] = ts[1]) : FnS Tryz.prog 108 [] [agT (eTm e), slT eTy ts] [] (.tp [.ag [.im (.sc (.int .i64 0)), .nl, .nl], bT false]) := by
  refine FnS.go [0, 1, 2, 4, 5, 6, 7, 8, 9, 11, 12, 23, 29, 42, 48, 67, 86, 104, 112, 120] [] Tryz.func108 rfl (fun kt kz => ?_)
  have fcx := fc108A103
  simp only [Tryz.f108]
  have gc := eq_true c
  have ge := eq_false he
  have o0 := okTy_iff.1 (ho _ (List.getElem_mem h0))
  refine Run ((ai (ai @eTm_eta (ai @eTy_eta @k)) (ai (ai @h0 @h1) (ai @a0 @gc)))) ?_; with_reducible repeat' (first | exact True.intro | refine Lf.mk ?_ ?_ | intro hb)
  refine Cal ((ai @eTm_eta (ai @eTy_eta @gc))) (specEqTy_ok ts[0].args[0] ts[1] (o0.2.2.2 _ (List.getElem_mem a0)) (ho _ (List.getElem_mem h1))) ?_
  refine Run ((ai (ai @eTm_eta (ai @eTy_eta @ge)) (ai (ai @gc @h0) (ai @h1 @a0)))) ?_; with_reducible repeat' (first | exact True.intro | refine Lf.mk ?_ ?_ | intro hb)
theorem sf14_c (e : Tm) (ts : List Ty) (k : e.kind = 14) (h0 : 0 < ts.length) (c : ¬ ts[0].kind = 5) : FnS Tryz.prog 108 [] [agT (eTm e), slT eTy ts] [] (.tp [.ag [.im (.sc (.int .i64 0)), .nl, .nl], bT false]) := by
  refine FnS.go [0, 1, 2, 4, 5, 6, 7, 8, 9, 11, 12, 23, 29, 42, 48, 67, 86, 104, 112, 120] [] Tryz.func108 rfl (fun kt kz => ?_)
  have fcx := fc108A103
  simp only [Tryz.f108]
  have gc := eq_false c
  refine Run ((ai (ai @eTm_eta @eTy_eta) (ai @k (ai @h0 @gc)))) ?_; with_reducible repeat' (first | exact True.intro | refine Lf.mk ?_ ?_ | intro hb)

end Go.VC.T
/- What types terms have: the reference, forms that bind. -/
namespace Go.VC.T
open Go Go.VC Go.Proofs Go.VC.F
def fc106A104 := (ai (ai (ai (ai (ai sz3 (ai ag3 zv3)) (ai (ai un3 sz4) (ai ag4 zv4))) (ai (ai (ai un4 sz9) (ai ag9 zv9)) (ai (ai un9 sz39) (ai ag39 zv39)))) (ai (ai (ai fl39_0 (ai pl39 sz41)) (ai (ai ag41 zv41) (ai sb41 un41))) (ai (ai (ai el41 ap41) (ai sz43 ag43)) (ai (ai zv43 fl43_0) (ai fl43_1 fl43_2))))) (ai (ai (ai (ai pl43 (ai sz44 ag44)) (ai (ai zv44 sb44) (ai un44 el44))) (ai (ai (ai ap44 sz46) (ai ag46 zv46)) (ai (ai fl46_0 fl46_1) (ai fl46_2 fl46_3)))) (ai (ai (ai fl46_4 (ai fl46_5 pl46)) (ai (ai sz70 ag70) (ai zv70 sb70))) (ai (ai (ai un70 el70) (ai ap70 okf67)) (ai (ai okf120 okf121) (ai sz37 sz25))))))
theorem sb13_of (s ctx : List Decl) (hc : ctx.length ≤ 2^20) (e : Tm) (k : e.kind = 13) (h0 : 0 < e.args.length) (ho : okTy (2^20) e.ty) (t : Ty) (ht : okTy (2^20) t) (b : Bool) (H : FnP Tryz.prog 67 [agT (eSch s), slT eDecl (ctx ++ [⟨e.name, e.ty⟩]), agT (eTm e.args[0])] (.tp [agT (eTy t), bT b])) : FnS Tryz.prog 106 [] [agT (eSch s), slT eDecl ctx, agT (eTm e)] [] (.tp [agT (eTy (tFun e.ty t)), bT b]) := by
  refine FnS.go [0, 1, 2, 3, 5, 6, 7, 8, 9, 10, 11, 12, 13, 16, 53] [] Tryz.func106 rfl (fun kt kz => ?_)
  have fcx := fc106A104
  simp only [Tryz.f106]
  refine RunX ((ai (ai @eSch_eta @eTm_eta) (ai @eTy_eta (ai @k @h0)))) ?_; with_reducible repeat' (first | exact True.intro | refine Lf.mk ?_ ?_ | intro hb)
  refine Sm.drawYK [0, 1, 2, 3, 4, 5, 6, 7, 8, 9, 10, 11, 12, 13, 14] 15 8 40 [(16, [], [14]), (17, [16], [])] mixed (by decide +kernel) (by simp only [get_cons, get_nil, ↓reduceIte, Nat.reduceMul, Nat.reduceEqDiff, Option.isSome_none, Option.isSome_some]) (by (simp only [List.getElem?_toArray, List.getElem?_cons_succ, List.getElem?_cons_zero]); exact rfl) (by (simp only [List.filterMap_cons, List.filterMap_nil, List.getElem?_toArray, List.getElem?_cons_succ, List.getElem?_cons_zero]); exact rfl) (by (simp only [List.filterMap_cons, List.filterMap_nil, List.getElem?_toArray, List.getElem?_cons_succ, List.getElem?_cons_zero]); exact rfl) rfl ?_; refine RunX ((ai (ai @eSch_eta @eTm_eta) (ai @eTy_eta @h0))) ?_; with_reducible repeat' (first | exact True.intro | refine Lf.mk ?_ ?_ | intro hb)
  refine CalI ((ai @eSch_eta (ai @eTm_eta @eTy_eta))) (specWith_of ctx hc e.name e.ty) ?_
  refine RunX ((ai (ai @eSch_eta @eTm_eta) (ai @eTy_eta @h0))) ?_; with_reducible repeat' (first | exact True.intro | refine Lf.mk ?_ ?_ | intro hb)
  refine CalI ((ai @eSch_eta (ai @eTm_eta @eTy_eta))) (H) ?_
  refine RunX ((ai @eSch_eta (ai @eTm_eta @eTy_eta))) ?_; with_reducible repeat' (first | exact True.intro | refine Lf.mk ?_ ?_ | intro hb)
  refine ⟨rfl, rfl, ?_⟩
  refine RunX ((ai @eSch_eta (ai @eTm_eta @eTy_eta))) ?_; with_reducible repeat' (first | exact True.intro | refine Lf.mk ?_ ?_ | intro hb)
  refine CalI ((ai @eTm_eta @eTy_eta)) (sFun_t e.ty t ho ht) ?_
  refine RunX ((ai @eSch_eta (ai @eTm_eta @eTy_eta))) ?_; with_reducible repeat' (first | exact True.intro | refine Lf.mk ?_ ?_ | intro hb)
theorem sb10_a (s ctx : List Decl) (e : Tm) (k : e.kind = 10) (h0 : 0 < e.args.length) (t : Ty) (b : Bool) (hn : ¬ (b = true ∧ t.kind = 4)) (H : FnP Tryz.prog 67 [agT (eSch s), slT eDecl ctx, agT (eTm e.args[0])] (.tp [agT (eTy t), bT b])) : FnS Tryz.prog 106 [] [agT (eSch s), slT eDecl ctx, agT (eTm e)] [] (.tp [.ag [.im (.sc (.int .i64 0)), .nl, .nl], bT false]) := by
  refine FnS.go [0, 1, 2, 3, 5, 6, 7, 8, 9, 10, 11, 12, 13, 16, 53] [] Tryz.func106 rfl (fun kt kz => ?_)
  have fcx := fc106A104
  simp only [Tryz.f106]
  cases b with
  | false =>
    refine RunX ((ai (ai @eSch_eta @eTm_eta) (ai @eTy_eta (ai @k @h0)))) ?_; with_reducible repeat' (first | exact True.intro | refine Lf.mk ?_ ?_ | intro hb)
    refine Sm.drawYK [0, 1, 2, 3, 4, 5, 6, 7, 8, 9] 10 10 40 [(11, [], [9]), (12, [11], [])] mixed (by decide +kernel) (by simp only [get_cons, get_nil, ↓reduceIte, Nat.reduceMul, Nat.reduceEqDiff, Option.isSome_none, Option.isSome_some]) (by (simp only [List.getElem?_toArray, List.getElem?_cons_succ, List.getElem?_cons_zero]); exact rfl) (by (simp only [List.filterMap_cons, List.filterMap_nil, List.getElem?_toArray, List.getElem?_cons_succ, List.getElem?_cons_zero]); exact rfl) (by (simp only [List.filterMap_cons, List.filterMap_nil, List.getElem?_toArray, List.getElem?_cons_succ, List.getElem?_cons_zero]); exact rfl) rfl ?_; refine RunX ((ai (ai @eSch_eta @eTm_eta) (ai @eTy_eta @h0))) ?_; with_reducible repeat' (first | exact True.intro | refine Lf.mk ?_ ?_ | intro hb)
    refine CalI ((ai @eSch_eta (ai @eTm_eta @eTy_eta))) (H) ?_
    refine RunX ((ai @eSch_eta (ai @eTm_eta @eTy_eta))) ?_; with_reducible repeat' (first | exact True.intro | refine Lf.mk ?_ ?_ | intro hb)
    refine ⟨rfl, rfl, ?_⟩
    refine RunX ((ai @eSch_eta (ai @eTm_eta @eTy_eta))) ?_; with_reducible repeat' (first | exact True.intro | refine Lf.mk ?_ ?_ | intro hb)
  | true =>
    have hk := eq_false (fun h => hn ⟨rfl, h⟩)
    refine RunX ((ai (ai @eSch_eta @eTm_eta) (ai @eTy_eta (ai @k @h0)))) ?_; with_reducible repeat' (first | exact True.intro | refine Lf.mk ?_ ?_ | intro hb)
    refine Sm.drawYK [0, 1, 2, 3, 4, 5, 6, 7, 8, 9] 10 10 40 [(11, [], [9]), (12, [11], [])] mixed (by decide +kernel) (by simp only [get_cons, get_nil, ↓reduceIte, Nat.reduceMul, Nat.reduceEqDiff, Option.isSome_none, Option.isSome_some]) (by (simp only [List.getElem?_toArray, List.getElem?_cons_succ, List.getElem?_cons_zero]); exact rfl) (by (simp only [List.filterMap_cons, List.filterMap_nil, List.getElem?_toArray, List.getElem?_cons_succ, List.getElem?_cons_zero]); exact rfl) (by (simp only [List.filterMap_cons, List.filterMap_nil, List.getElem?_toArray, List.getElem?_cons_succ, List.getElem?_cons_zero]); exact rfl) rfl ?_; refine RunX ((ai (ai @eSch_eta @eTm_eta) (ai @eTy_eta @h0))) ?_; with_reducible repeat' (first | exact True.intro | refine Lf.mk ?_ ?_ | intro hb)
    refine CalI ((ai @eSch_eta (ai @eTm_eta @eTy_eta))) (H) ?_
    refine RunX ((ai @eSch_eta (ai @eTm_eta @eTy_eta))) ?_; with_reducible repeat' (first | exact True.intro | refine Lf.mk ?_ ?_ | intro hb)
    refine ⟨rfl, rfl, ?_⟩
    refine RunX ((ai (ai @eSch_eta @eTm_eta) (ai @eTy_eta @hk))) ?_; with_reducible repeat' (first | exact True.intro | refine Lf.mk ?_ ?_ | intro hb)
theorem sb10_b (s ctx : List Decl) (hc : ctx.length ≤ 2^20) (e : Tm) (k : e.kind = 10) (h0 : 0 < e.args.length) (h1 : 1 < e.args.length) (t u : Ty) (b : Bool) (hk : t.kind = 4) (ha : 0 < t.args.length) (H : FnP Tryz.prog 67 [agT (eSch s), slT eDecl ctx, agT (eTm e.args[0])] (.tp [agT (eTy t), bT true])) (H2 : FnP Tryz.prog 67 [agT (eSch s), slT eDecl (ctx ++ [⟨e.name, t.args[0]⟩]), agT (eTm e.args[1])] (.tp [agT (eTy u), bT b])) : FnS Tryz.prog 106 [] [agT (eSch s), slT eDecl ctx, agT (eTm e)] [] (.tp [agT (eTy u), bT (b && decide (u.kind = 4))]) := by
  refine FnS.go [0, 1, 2, 3, 5, 6, 7, 8, 9, 10, 11, 12, 13, 16, 53] [] Tryz.func106 rfl (fun kt kz => ?_)
  have fcx := fc106A104
  simp only [Tryz.f106]
  have gk := eq_true hk
  refine RunX ((ai (ai @eSch_eta @eTm_eta) (ai @eTy_eta (ai @k @h0)))) ?_; with_reducible repeat' (first | exact True.intro | refine Lf.mk ?_ ?_ | intro hb)
  refine Sm.drawYK [0, 1, 2, 3, 4, 5, 6, 7, 8, 9] 10 10 40 [(11, [], [9]), (12, [11], [])] mixed (by decide +kernel) (by simp only [get_cons, get_nil, ↓reduceIte, Nat.reduceMul, Nat.reduceEqDiff, Option.isSome_none, Option.isSome_some]) (by (simp only [List.getElem?_toArray, List.getElem?_cons_succ, List.getElem?_cons_zero]); exact rfl) (by (simp only [List.filterMap_cons, List.filterMap_nil, List.getElem?_toArray, List.getElem?_cons_succ, List.getElem?_cons_zero]); exact rfl) (by (simp only [List.filterMap_cons, List.filterMap_nil, List.getElem?_toArray, List.getElem?_cons_succ, List.getElem?_cons_zero]); exact rfl) rfl ?_; refine RunX ((ai (ai @eSch_eta @eTm_eta) (ai @eTy_eta @h0))) ?_; with_reducible repeat' (first | exact True.intro | refine Lf.mk ?_ ?_ | intro hb)
  refine CalI ((ai @eSch_eta (ai @eTm_eta @eTy_eta))) (H) ?_
  refine RunX ((ai @eSch_eta (ai @eTm_eta @eTy_eta))) ?_; with_reducible repeat' (first | exact True.intro | refine Lf.mk ?_ ?_ | intro hb)
  refine ⟨rfl, rfl, ?_⟩
  refine RunX ((ai (ai @eSch_eta @eTm_eta) (ai @eTy_eta @gk))) ?_; with_reducible repeat' (first | exact True.intro | refine Lf.mk ?_ ?_ | intro hb)
  refine Sm.drawYK [0, 1, 2, 3, 4, 5, 6, 7, 8, 9, 10, 11, 12, 13, 14, 15, 16] 17 12 40 [(18, [], [16]), (19, [18], [])] mixed (by decide +kernel) (by simp only [get_cons, get_nil, ↓reduceIte, Nat.reduceMul, Nat.reduceEqDiff, Option.isSome_none, Option.isSome_some]) (by (simp only [List.getElem?_toArray, List.getElem?_cons_succ, List.getElem?_cons_zero]); exact rfl) (by (simp only [List.filterMap_cons, List.filterMap_nil, List.getElem?_toArray, List.getElem?_cons_succ, List.getElem?_cons_zero]); exact rfl) (by (simp only [List.filterMap_cons, List.filterMap_nil, List.getElem?_toArray, List.getElem?_cons_succ, List.getElem?_cons_zero]); exact rfl) rfl ?_; refine RunX ((ai (ai @eSch_eta (ai @eTm_eta @eTy_eta)) (ai @h0 (ai @h1 @ha)))) ?_; with_reducible repeat' (first | exact True.intro | refine Lf.mk ?_ ?_ | intro hb)
  refine CalI ((ai @eSch_eta (ai @eTm_eta @eTy_eta))) (specWith_of ctx hc e.name t.args[0]) ?_
  refine RunX ((ai (ai @eSch_eta @eTm_eta) (ai @eTy_eta @h1))) ?_; with_reducible repeat' (first | exact True.intro | refine Lf.mk ?_ ?_ | intro hb)
  refine CalI ((ai @eSch_eta (ai @eTm_eta @eTy_eta))) (H2) ?_
  refine RunX ((ai @eSch_eta (ai @eTm_eta @eTy_eta))) ?_; with_reducible repeat' (first | exact True.intro | refine Lf.mk ?_ ?_ | intro hb)
  refine ⟨rfl, rfl, ?_⟩
  have dq : Dq [0, 1, 2, 3, 4, 5, 6] [7, 8] 40 [[3, 4, 5, 6], []] := ⟨⟩
  cases b with
  | false =>
    refine RunX ((ai @eSch_eta (ai @eTm_eta @eTy_eta))) ?_; with_reducible repeat' (first | exact True.intro | refine Lf.mk ?_ ?_ | intro hb)
    refine ⟨rfl, ?_⟩
    refine RunX ((ai @eSch_eta (ai @eTm_eta @eTy_eta))) ?_; with_reducible repeat' (first | exact True.intro | refine Lf.mk ?_ ?_ | intro hb)
  | true =>
    refine RunX ((ai @eSch_eta (ai @eTm_eta @eTy_eta))) ?_; with_reducible repeat' (first | exact True.intro | refine Lf.mk ?_ ?_ | intro hb)

end Go.VC.T
/- What types terms have: the reference, the cases. -/
namespace Go.VC.T
open Go Go.VC Go.Proofs Go.VC.F
def fc90A105 := (ai (ai (ai (ai (ai sz3 (ai ag3 zv3)) (ai (ai un3 sz4) (ai ag4 zv4))) (ai (ai un4 (ai sz39 ag39)) (ai (ai zv39 fl39_0) (ai pl39 sz41)))) (ai (ai (ai ag41 (ai zv41 sb41)) (ai (ai un41 el41) (ai ap41 sz43))) (ai (ai (ai ag43 zv43) (ai fl43_0 fl43_1)) (ai (ai fl43_2 pl43) (ai sz44 ag44))))) (ai (ai (ai (ai zv44 (ai sb44 un44)) (ai (ai el44 ap44) (ai sz46 ag46))) (ai (ai zv46 (ai fl46_0 fl46_1)) (ai (ai fl46_2 fl46_3) (ai fl46_4 fl46_5)))) (ai (ai (ai pl46 (ai sz70 ag70)) (ai (ai zv70 sb70) (ai un70 el70))) (ai (ai (ai ap70 okf67) (ai okf106 okf107)) (ai (ai okf108 sz37) (ai sz25 sz9))))))
theorem some_a (s ctx : List Decl) (e : Tm) (k : e.kind = 13 ∨ e.kind = 10) (t : Ty) (b : Bool) (H : FnP Tryz.prog 106 [agT (eSch s), slT eDecl ctx, agT (eTm e)] (.tp [agT (eTy t), bT b])) : FnS Tryz.prog 90 [] [agT (eSch s), slT eDecl ctx, agT (eTm e)] [] (.tp [agT (eTy t), bT b]) := by
  refine FnS.go [0, 1, 2, 3, 5, 6, 7, 8, 9, 10, 11, 12, 13, 14, 15, 16, 17, 25, 38, 53, 68] [] Tryz.func90 rfl (fun kt kz => ?_)
  have fcx := fc90A105
  simp only [Tryz.f90]
  rcases k with k | k
  · have g := eq_true k
    refine RunX ((ai (ai @eSch_eta @eTm_eta) (ai @eTy_eta @g))) ?_; with_reducible repeat' (first | exact True.intro | refine Lf.mk ?_ ?_ | intro hb)
    refine CalI ((ai (ai @eSch_eta @eTm_eta) (ai @eTy_eta @g))) (H) ?_
    refine RunX ((ai (ai @eSch_eta @eTm_eta) (ai @eTy_eta @g))) ?_; with_reducible repeat' (first | exact True.intro | refine Lf.mk ?_ ?_ | intro hb)
    refine ⟨rfl, rfl, ?_⟩
    refine RunX ((ai (ai @eSch_eta @eTm_eta) (ai @eTy_eta @g))) ?_; with_reducible repeat' (first | exact True.intro | refine Lf.mk ?_ ?_ | intro hb)
  · have g := eq_true k
    have g2 : (e.kind = 13) = False := eq_false (by omega)
    refine RunX ((ai (ai @eSch_eta @eTm_eta) (ai @eTy_eta (ai @g @g2)))) ?_; with_reducible repeat' (first | exact True.intro | refine Lf.mk ?_ ?_ | intro hb)
    refine CalI ((ai (ai @eSch_eta @eTm_eta) (ai @eTy_eta (ai @g @g2)))) (H) ?_
    refine RunX ((ai (ai @eSch_eta @eTm_eta) (ai @eTy_eta (ai @g @g2)))) ?_; with_reducible repeat' (first | exact True.intro | refine Lf.mk ?_ ?_ | intro hb)
    refine ⟨rfl, rfl, ?_⟩
    refine RunX ((ai (ai @eSch_eta @eTm_eta) (ai @eTy_eta (ai @g @g2)))) ?_; with_reducible repeat' (first | exact True.intro | refine Lf.mk ?_ ?_ | intro hb)
theorem some_b (s ctx : List Decl) (e : Tm) (k1 : ¬ e.kind = 13) (k2 : ¬ e.kind = 10) (k0 : e.args.length = 0) (t : Ty) (b : Bool) (H : FnP Tryz.prog 107 [agT (eSch s), slT eDecl ctx, agT (eTm e)] (.tp [agT (eTy t), bT b])) : FnS Tryz.prog 90 [] [agT (eSch s), slT eDecl ctx, agT (eTm e)] [] (.tp [agT (eTy t), bT b]) := by
  refine FnS.go [0, 1, 2, 3, 5, 6, 7, 8, 9, 10, 11, 12, 13, 14, 15, 16, 17, 25, 38, 53, 68] [] Tryz.func90 rfl (fun kt kz => ?_)
  have fcx := fc90A105
  simp only [Tryz.f90]
  have g1 := eq_false k1
  have g2 := eq_false k2
  have g0 : ((e.args.length : Int) = 0) = True := eq_true (by omega)
  refine RunX ((ai (ai @eSch_eta (ai @eTm_eta @eTy_eta)) (ai @g1 (ai @g2 @g0)))) ?_; with_reducible repeat' (first | exact True.intro | refine Lf.mk ?_ ?_ | intro hb)
  refine CalI ((ai (ai @eSch_eta (ai @eTm_eta @eTy_eta)) (ai @g1 (ai @g2 @g0)))) (H) ?_
  refine RunX ((ai (ai @eSch_eta (ai @eTm_eta @eTy_eta)) (ai @g1 (ai @g2 @g0)))) ?_; with_reducible repeat' (first | exact True.intro | refine Lf.mk ?_ ?_ | intro hb)
  refine ⟨rfl, rfl, ?_⟩
  refine RunX ((ai (ai @eSch_eta (ai @eTm_eta @eTy_eta)) (ai @g1 (ai @g2 @g0)))) ?_; with_reducible repeat' (first | exact True.intro | refine Lf.mk ?_ ?_ | intro hb)
theorem some_c (s ctx : List Decl) (e : Tm) (he : okTm (2^20) e) (k1 : ¬ e.kind = 13) (k2 : ¬ e.kind = 10) (k0 : ¬ e.args.length = 0) (q : Tm → Option Ty) (H : ∀ u ∈ e.args, FnP Tryz.prog 67 [agT (eSch s), slT eDecl ctx, agT (eTm u)] (.tp [agT (eTy ((q u).getD ty0)), bT (q u).isSome])) (l : List Ty) (hl : allT (e.args.map q) = some l) (t : Ty) (b : Bool) (H2 : FnP Tryz.prog 108 [agT (eTm e), slT eTy l] (.tp [agT (eTy t), bT b])) : FnS Tryz.prog 90 [] [agT (eSch s), slT eDecl ctx, agT (eTm e)] [] (.tp [agT (eTy t), bT b]) := by
  refine FnS.go [0, 1, 2, 3, 5, 6, 7, 8, 9, 10, 11, 12, 13, 14, 15, 16, 17, 25, 38, 53, 68] [] Tryz.func90 rfl (fun kt kz => ?_)
  have fcx := fc90A105
  simp only [Tryz.f90]
  have ho := okTm_iff.1 he
  have hln := ho.2.2.2.2.2.1
  have g1 := eq_false k1
  have g2 := eq_false k2
  have g0 : ((e.args.length : Int) = 0) = False := eq_false (by omega)
  have fl0 : ([] : List Ty).flatMap eTy = [] := rfl
  refine Run ((ai (ai @eSch_eta (ai @eTm_eta @eTy_eta)) (ai @g1 (ai @g2 @g0)))) ?_; with_reducible repeat' (first | exact True.intro | refine Lf.mk ?_ ?_ | intro hb)
  refine Sm.share (96) (by simp -dsimp (maxSteps := 2000000) (disch := omega) only [vs, ↓Option.bind_some, ev1, ofV, scalarB, Kn, Kb, calleeOf, evLoad, ptr, evField, evFieldAddr, shift, ↓pt_at, ↓pt_at1, evExtract, evBin, evLen, evConv, cellsT, noS, Cell.has, Cell.hasN, Cell.anyN, toIV, toIV0, toIVs, ownC, srcM, Ob.own, Ob.esz, allSc, nilK, lenC, ownCell, isPtr, ptrNil, frzO, Cell.frz, Cell.keys, ↓reduceIte, reduceCtorEq, Nat.reduceEqDiff, Nat.reduceBEq, Nat.reduceBNe, Nat.reduceAdd, Nat.reduceMul, Nat.reduceSub, Nat.reduceLT, Nat.reduceLeDiff, Nat.reducePow, Int.reduceLT, Int.reduceLE, Int.reduceEq, Int.reduceNe, quietB, Nat.reduceMod, Int.reduceToNat, ne_eq, eq_self, exists_const, evBytes, byRow, byL, byStr_size, ifsz, ByteArray.size_append, Option.none_or, Option.some_or, evLook, keyD, fc90A105]) ?_; simp -dsimp (maxSteps := 2000000) (disch := omega) only [vs, ↓Option.bind_some, ev1, ofV, scalarB, Kn, Kb, calleeOf, evLoad, ptr, evField, evFieldAddr, shift, ↓pt_at, ↓pt_at1, evExtract, evBin, evLen, evConv, cellsT, noS, Cell.has, Cell.hasN, Cell.anyN, toIV, toIV0, toIVs, ownC, srcM, Ob.own, Ob.esz, allSc, nilK, lenC, ownCell, isPtr, ptrNil, frzO, Cell.frz, Cell.keys, ↓reduceIte, reduceCtorEq, Nat.reduceEqDiff, Nat.reduceBEq, Nat.reduceBNe, Nat.reduceAdd, Nat.reduceMul, Nat.reduceSub, Nat.reduceLT, Nat.reduceLeDiff, Nat.reducePow, Int.reduceLT, Int.reduceLE, Int.reduceEq, Int.reduceNe, quietB, Nat.reduceMod, Int.reduceToNat, ne_eq, eq_self, exists_const, evBytes, byRow, byL, byStr_size, ifsz, ByteArray.size_append, Option.none_or, Option.some_or, evLook, keyD, fc90A105, St.share]
  refine Trn (α := Nat × List Ty) [7, 12, 13, 14, 15, 49, 50, 51, 52, 53, 54, 55, 56, 57, 58, 59, 60, 61, 62, 63, 64, 65, 66, 67, 68, 69, 70, 71, 72, 73] (fun ⟨i, m⟩ => [(13, iT i), (12, .c (.os 96 m.length))]) (fun ⟨i, m⟩ => [(6, .box 39 ((eSch s).map .im)), (10, .box 46 ((eTm e).map .im)), (12, .box 43 [.im (.sc (.int .i64 0)), .nl, .nl]), (96, .vec 43 3 m.length (m.flatMap eTy) false)]) (fun ⟨i, m⟩ => i ≤ e.args.length ∧ m.length = i ∧ allT ((e.args.take i).map q) = some m) (fun ⟨i, m⟩ => e.args.length - i) ((0, [])) (⟨Nat.zero_le _, rfl, rfl⟩) ((ai (ai @eSch_eta @eTm_eta) (ai @eTy_eta @fl0))) ?_; intro lx hI; obtain ⟨i, m⟩ := lx; (try simp only [List.nil_append, List.cons_append] at hI ⊢)
  by_cases hlt : i < e.args.length
  · cases hu : q e.args[i] with
    | none =>
      rw [allT_no (List.mem_map.2 ⟨_, List.getElem_mem hlt, hu⟩)] at hl
      cases hl
    | some t2 =>
      have hH := H _ (List.getElem_mem hlt)
      rw [hu] at hH
      have hH : FnP Tryz.prog 67 [agT (eSch s), slT eDecl ctx, agT (eTm e.args[i])] (.tp [agT (eTy t2), bT true]) := hH
      have e1 : m.flatMap eTy ++ eTy t2 = (m ++ [t2]).flatMap eTy := by rw [List.flatMap_append, flat_one]
      rw [eTy_eta t2] at e1
      simp only [slI] at e1
      have e2 : m.length + 1 = (m ++ [t2]).length := by simp
      refine RunX ((ai (ai @eSch_eta @eTm_eta) (ai @eTy_eta @hlt))) ?_; with_reducible repeat' (first | exact True.intro | refine Lf.mk ?_ ?_ | intro hb)
      refine Sm.drawYK [0, 1, 2, 3, 4, 5, 6, 7, 8, 9, 10] 11 14 40 [(12, [], [10]), (13, [12], [])] mixed (by decide +kernel) (by simp only [get_cons, get_nil, ↓reduceIte, Nat.reduceMul, Nat.reduceEqDiff, Option.isSome_none, Option.isSome_some]) (by (simp only [List.getElem?_toArray, List.getElem?_cons_succ, List.getElem?_cons_zero]); exact rfl) (by (simp only [List.filterMap_cons, List.filterMap_nil, List.getElem?_toArray, List.getElem?_cons_succ, List.getElem?_cons_zero]); exact rfl) (by (simp only [List.filterMap_cons, List.filterMap_nil, List.getElem?_toArray, List.getElem?_cons_succ, List.getElem?_cons_zero]); exact rfl) rfl ?_; refine RunX ((ai (ai @eSch_eta @eTm_eta) (ai @eTy_eta @hlt))) ?_; with_reducible repeat' (first | exact True.intro | refine Lf.mk ?_ ?_ | intro hb)
      refine CalI ((ai @eSch_eta (ai @eTm_eta @eTy_eta))) (hH) ?_
      refine RunX ((ai (ai @eSch_eta (ai @eTm_eta @eTy_eta)) (ai @hlt (ai @e1 @e2)))) ?_; with_reducible repeat' (first | exact True.intro | refine Lf.mk ?_ ?_ | intro hb)
      refine ⟨rfl, rfl, ?_⟩
      refine RunX ((ai (ai @eSch_eta (ai @eTm_eta @eTy_eta)) (ai @hlt (ai @e1 @e2)))) ?_; with_reducible repeat' (first | exact True.intro | refine Lf.mk ?_ ?_ | intro hb)
      exact Nxt ((ai (ai @eSch_eta @eTm_eta) (ai @eTy_eta (ai @e1 @e2)))) ((i + 1, m ++ [t2])) (⟨by omega, by rw [← e2]; have := hI.2.1; omega, by rw [take_at hlt, List.map_append]; show allT (_ ++ [q e.args[i]]) = _; rw [hu]; exact allT_app hI.2.2⟩) (by first | omega | (simp; omega))
  · have hm : m = l := by
      have := hI.2.2
      rw [List.take_of_length_le (by omega), hl] at this
      exact (Option.some.inj this).symm
    subst hm
    refine Run ((ai (ai @eSch_eta @eTm_eta) (ai @eTy_eta @hlt))) ?_; with_reducible repeat' (first | exact True.intro | refine Lf.mk ?_ ?_ | intro hb)
    refine CallG.frz1 96 rfl ?_
    simp -dsimp (maxSteps := 2000000) (disch := omega) only [vs, ↓Option.bind_some, ev1, ofV, scalarB, Kn, Kb, calleeOf, evLoad, ptr, evField, evFieldAddr, shift, ↓pt_at, ↓pt_at1, evExtract, evBin, evLen, evConv, cellsT, noS, Cell.has, Cell.hasN, Cell.anyN, toIV, toIV0, toIVs, ownC, srcM, Ob.own, Ob.esz, allSc, nilK, lenC, ownCell, isPtr, ptrNil, frzO, Cell.frz, Cell.keys, ↓reduceIte, reduceCtorEq, Nat.reduceEqDiff, Nat.reduceBEq, Nat.reduceBNe, Nat.reduceAdd, Nat.reduceMul, Nat.reduceSub, Nat.reduceLT, Nat.reduceLeDiff, Nat.reducePow, Int.reduceLT, Int.reduceLE, Int.reduceEq, Int.reduceNe, quietB, Nat.reduceMod, Int.reduceToNat, ne_eq, eq_self, exists_const, evBytes, byRow, byL, byStr_size, ifsz, ByteArray.size_append, Option.none_or, Option.some_or, evLook, keyD, fc90A105, eSch_eta, eTm_eta, eTy_eta]
    refine CalI ((ai @eSch_eta (ai @eTm_eta @eTy_eta))) (H2) ?_
    refine Run ((ai @eSch_eta (ai @eTm_eta @eTy_eta))) ?_; with_reducible repeat' (first | exact True.intro | refine Lf.mk ?_ ?_ | intro hb)
    refine ⟨rfl, rfl, ?_⟩
    refine Run ((ai @eSch_eta (ai @eTm_eta @eTy_eta))) ?_; with_reducible repeat' (first | exact True.intro | refine Lf.mk ?_ ?_ | intro hb)
theorem some_d (s ctx : List Decl) (e : Tm) (he : okTm (2^20) e) (k1 : ¬ e.kind = 13) (k2 : ¬ e.kind = 10) (k0 : ¬ e.args.length = 0) (q : Tm → Option Ty) (H : ∀ u ∈ e.args, FnP Tryz.prog 67 [agT (eSch s), slT eDecl ctx, agT (eTm u)] (.tp [agT (eTy ((q u).getD ty0)), bT (q u).isSome])) (hl : allT (e.args.map q) = none) : FnS Tryz.prog 90 [] [agT (eSch s), slT eDecl ctx, agT (eTm e)] [] (.tp [.ag [.im (.sc (.int .i64 0)), .nl, .nl], bT false]) := by
  refine FnS.go [0, 1, 2, 3, 5, 6, 7, 8, 9, 10, 11, 12, 13, 14, 15, 16, 17, 25, 38, 53, 68] [] Tryz.func90 rfl (fun kt kz => ?_)
  have fcx := fc90A105
  simp only [Tryz.f90]
  have ho := okTm_iff.1 he
  have hln := ho.2.2.2.2.2.1
  have g1 := eq_false k1
  have g2 := eq_false k2
  have g0 : ((e.args.length : Int) = 0) = False := eq_false (by omega)
  have fl0 : ([] : List Ty).flatMap eTy = [] := rfl
  refine Run ((ai (ai @eSch_eta (ai @eTm_eta @eTy_eta)) (ai @g1 (ai @g2 @g0)))) ?_; with_reducible repeat' (first | exact True.intro | refine Lf.mk ?_ ?_ | intro hb)
  refine Sm.share (96) (by simp -dsimp (maxSteps := 2000000) (disch := omega) only [vs, ↓Option.bind_some, ev1, ofV, scalarB, Kn, Kb, calleeOf, evLoad, ptr, evField, evFieldAddr, shift, ↓pt_at, ↓pt_at1, evExtract, evBin, evLen, evConv, cellsT, noS, Cell.has, Cell.hasN, Cell.anyN, toIV, toIV0, toIVs, ownC, srcM, Ob.own, Ob.esz, allSc, nilK, lenC, ownCell, isPtr, ptrNil, frzO, Cell.frz, Cell.keys, ↓reduceIte, reduceCtorEq, Nat.reduceEqDiff, Nat.reduceBEq, Nat.reduceBNe, Nat.reduceAdd, Nat.reduceMul, Nat.reduceSub, Nat.reduceLT, Nat.reduceLeDiff, Nat.reducePow, Int.reduceLT, Int.reduceLE, Int.reduceEq, Int.reduceNe, quietB, Nat.reduceMod, Int.reduceToNat, ne_eq, eq_self, exists_const, evBytes, byRow, byL, byStr_size, ifsz, ByteArray.size_append, Option.none_or, Option.some_or, evLook, keyD, fc90A105]) ?_; simp -dsimp (maxSteps := 2000000) (disch := omega) only [vs, ↓Option.bind_some, ev1, ofV, scalarB, Kn, Kb, calleeOf, evLoad, ptr, evField, evFieldAddr, shift, ↓pt_at, ↓pt_at1, evExtract, evBin, evLen, evConv, cellsT, noS, Cell.has, Cell.hasN, Cell.anyN, toIV, toIV0, toIVs, ownC, srcM, Ob.own, Ob.esz, allSc, nilK, lenC, ownCell, isPtr, ptrNil, frzO, Cell.frz, Cell.keys, ↓reduceIte, reduceCtorEq, Nat.reduceEqDiff, Nat.reduceBEq, Nat.reduceBNe, Nat.reduceAdd, Nat.reduceMul, Nat.reduceSub, Nat.reduceLT, Nat.reduceLeDiff, Nat.reducePow, Int.reduceLT, Int.reduceLE, Int.reduceEq, Int.reduceNe, quietB, Nat.reduceMod, Int.reduceToNat, ne_eq, eq_self, exists_const, evBytes, byRow, byL, byStr_size, ifsz, ByteArray.size_append, Option.none_or, Option.some_or, evLook, keyD, fc90A105, St.share]
  refine Trn (α := Nat × List Ty) [7, 12, 13, 14, 15, 49, 50, 51, 52, 53, 54, 55, 56, 57, 58, 59, 60, 61, 62, 63, 64, 65, 66, 67, 68, 69, 70, 71, 72, 73] (fun ⟨i, m⟩ => [(13, iT i), (12, .c (.os 96 m.length))]) (fun ⟨i, m⟩ => [(6, .box 39 ((eSch s).map .im)), (10, .box 46 ((eTm e).map .im)), (12, .box 43 [.im (.sc (.int .i64 0)), .nl, .nl]), (96, .vec 43 3 m.length (m.flatMap eTy) false)]) (fun ⟨i, m⟩ => i ≤ e.args.length ∧ m.length = i ∧ allT ((e.args.take i).map q) = some m) (fun ⟨i, m⟩ => e.args.length - i) ((0, [])) (⟨Nat.zero_le _, rfl, rfl⟩) ((ai (ai @eSch_eta @eTm_eta) (ai @eTy_eta @fl0))) ?_; intro lx hI; obtain ⟨i, m⟩ := lx; (try simp only [List.nil_append, List.cons_append] at hI ⊢)
  by_cases hlt : i < e.args.length
  · cases hu : q e.args[i] with
    | none =>
      have hH := H _ (List.getElem_mem hlt)
      rw [hu] at hH
      have hH : FnP Tryz.prog 67 [agT (eSch s), slT eDecl ctx, agT (eTm e.args[i])] (.tp [agT (eTy ty0), bT false]) := hH
      refine RunX ((ai (ai @eSch_eta @eTm_eta) (ai @eTy_eta @hlt))) ?_; with_reducible repeat' (first | exact True.intro | refine Lf.mk ?_ ?_ | intro hb)
      refine Sm.drawYK [0, 1, 2, 3, 4, 5, 6, 7, 8, 9, 10] 11 14 40 [(12, [], [10]), (13, [12], [])] mixed (by decide +kernel) (by simp only [get_cons, get_nil, ↓reduceIte, Nat.reduceMul, Nat.reduceEqDiff, Option.isSome_none, Option.isSome_some]) (by (simp only [List.getElem?_toArray, List.getElem?_cons_succ, List.getElem?_cons_zero]); exact rfl) (by (simp only [List.filterMap_cons, List.filterMap_nil, List.getElem?_toArray, List.getElem?_cons_succ, List.getElem?_cons_zero]); exact rfl) (by (simp only [List.filterMap_cons, List.filterMap_nil, List.getElem?_toArray, List.getElem?_cons_succ, List.getElem?_cons_zero]); exact rfl) rfl ?_; refine RunX ((ai (ai @eSch_eta @eTm_eta) (ai @eTy_eta @hlt))) ?_; with_reducible repeat' (first | exact True.intro | refine Lf.mk ?_ ?_ | intro hb)
      refine CalI ((ai @eSch_eta (ai @eTm_eta @eTy_eta))) (hH) ?_
      refine RunX ((ai (ai @eSch_eta @eTm_eta) (ai @eTy_eta @hlt))) ?_; with_reducible repeat' (first | exact True.intro | refine Lf.mk ?_ ?_ | intro hb)
      refine ⟨rfl, rfl, ?_⟩
      refine RunX ((ai (ai @eSch_eta @eTm_eta) (ai @eTy_eta @hlt))) ?_; with_reducible repeat' (first | exact True.intro | refine Lf.mk ?_ ?_ | intro hb)
    | some t2 =>
      have hH := H _ (List.getElem_mem hlt)
      rw [hu] at hH
      have hH : FnP Tryz.prog 67 [agT (eSch s), slT eDecl ctx, agT (eTm e.args[i])] (.tp [agT (eTy t2), bT true]) := hH
      have e1 : m.flatMap eTy ++ eTy t2 = (m ++ [t2]).flatMap eTy := by rw [List.flatMap_append, flat_one]
      rw [eTy_eta t2] at e1
      simp only [slI] at e1
      have e2 : m.length + 1 = (m ++ [t2]).length := by simp
      refine RunX ((ai (ai @eSch_eta @eTm_eta) (ai @eTy_eta @hlt))) ?_; with_reducible repeat' (first | exact True.intro | refine Lf.mk ?_ ?_ | intro hb)
      refine Sm.drawYK [0, 1, 2, 3, 4, 5, 6, 7, 8, 9, 10] 11 14 40 [(12, [], [10]), (13, [12], [])] mixed (by decide +kernel) (by simp only [get_cons, get_nil, ↓reduceIte, Nat.reduceMul, Nat.reduceEqDiff, Option.isSome_none, Option.isSome_some]) (by (simp only [List.getElem?_toArray, List.getElem?_cons_succ, List.getElem?_cons_zero]); exact rfl) (by (simp only [List.filterMap_cons, List.filterMap_nil, List.getElem?_toArray, List.getElem?_cons_succ, List.getElem?_cons_zero]); exact rfl) (by (simp only [List.filterMap_cons, List.filterMap_nil, List.getElem?_toArray, List.getElem?_cons_succ, List.getElem?_cons_zero]); exact rfl) rfl ?_; refine RunX ((ai (ai @eSch_eta @eTm_eta) (ai @eTy_eta @hlt))) ?_; with_reducible repeat' (first | exact True.intro | refine Lf.mk ?_ ?_ | intro hb)
      refine CalI ((ai @eSch_eta (ai @eTm_eta @eTy_eta))) (hH) ?_
      refine RunX ((ai (ai @eSch_eta (ai @eTm_eta @eTy_eta)) (ai @hlt (ai @e1 @e2)))) ?_; with_reducible repeat' (first | exact True.intro | refine Lf.mk ?_ ?_ | intro hb)
      refine ⟨rfl, rfl, ?_⟩
      refine RunX ((ai (ai @eSch_eta (ai @eTm_eta @eTy_eta)) (ai @hlt (ai @e1 @e2)))) ?_; with_reducible repeat' (first | exact True.intro | refine Lf.mk ?_ ?_ | intro hb)
      exact Nxt ((ai (ai @eSch_eta @eTm_eta) (ai @eTy_eta (ai @e1 @e2)))) ((i + 1, m ++ [t2])) (⟨by omega, by rw [← e2]; have := hI.2.1; omega, by rw [take_at hlt, List.map_append]; show allT (_ ++ [q e.args[i]]) = _; rw [hu]; exact allT_app hI.2.2⟩) (by first | omega | (simp; omega))
  · have := hI.2.2
    rw [List.take_of_length_le (by omega), hl] at this
    cases this

end Go.VC.T
/- What types terms have: the program's function, by recursion. -/
namespace Go.VC
open Go
theorem len1 {α : Type} {l : List α} (h : l.length = 1) : ∃ a, l = [a] := List.length_eq_one_iff.1 h
theorem len2 {α : Type} {l : List α} (h : l.length = 2) : ∃ a b, l = [a, b] := by
  match l, h with
  | [a, b], _ => exact ⟨a, b, rfl⟩
theorem len3 {α : Type} {l : List α} (h : l.length = 3) : ∃ a b c, l = [a, b, c] := by
  match l, h with
  | [a, b, c], _ => exact ⟨a, b, c, rfl⟩
/-- The same type whatever stands behind the term. -/
def TyResF (P : Program) (g : FuncId) (A : List IV → List TV) (o : Option Ty) : Prop := ∃ t' : Ty, (∀ r, FnP P g (A r) (.tp [agT (eTy t'), bT o.isSome])) ∧ ∀ t, o = some t → t' = t
theorem TyResF.mk {P : Program} {g : FuncId} {A : List IV → List TV} {o : Option Ty} {t' : Ty} {b : Bool} (h : ∀ r, FnP P g (A r) (.tp [agT (eTy t'), bT b])) (hb : b = o.isSome) (ht : ∀ t, o = some t → t' = t) : TyResF P g A o := ⟨t', hb ▸ h, ht⟩
theorem TyResF.to {P : Program} {g : FuncId} {A : List IV → List TV} {o : Option Ty} (h : TyResF P g A o) (r : List IV) : TyRes P g (A r) o := by
  obtain ⟨t', h, ht⟩ := h
  exact ⟨t', h r, ht⟩
theorem TyResF.yes {P : Program} {g : FuncId} {A : List IV → List TV} {t : Ty} (h : TyResF P g A (some t)) : ∀ r, FnP P g (A r) (.tp [agT (eTy t), bT true]) := by
  obtain ⟨t', h, ht⟩ := h
  obtain rfl := ht t rfl
  exact h
theorem TyResF.no {P : Program} {g : FuncId} {A : List IV → List TV} (h : TyResF P g A none) : ∃ t' : Ty, ∀ r, FnP P g (A r) (.tp [agT (eTy t'), bT false]) := by
  obtain ⟨t', h, _⟩ := h
  exact ⟨t', h⟩
end Go.VC
namespace Go.VC.T
open Go Go.VC Go.Proofs Go.VC.F
/-- Forms that bind nothing. -/
theorem plain_res (Y : List IV) (e : Tm) (hN : NdOk e) (hk : ¬ e.kind = 1 ∧ ¬ e.kind = 2 ∧ ¬ e.kind = 3 ∧ ¬ e.kind = 12 ∧ ¬ e.kind = 7 ∧ ¬ e.kind = 10 ∧ ¬ e.kind = 13) (ho : okTm (2^20) e) (l : List Ty) (hl : l.length = e.args.length) (hT : ∀ t ∈ l, TyOk t) :
    TyResF Tryz.prog 119 (fun r => [.c (.im (.pt Y)), .c (.im (.pt (eTm e ++ r))), slT eTy l]) (plainT e l) ∧ ∀ t, plainT e l = some t → okTy (2^20) t ∧ zTy t ≤ 2^40 := by
  obtain ⟨k1, k2, k3, k12, k7, k10, k13⟩ := hk
  have hln := (okTm_iff.1 ho).2.2.2.2.2.1
  have hlo : ∀ t ∈ l, okTy (2^20) t := fun t h => (hT t h).ok
  rcases nd_kind hN with k | k | k | k | k | k | k | k | k | k | k | k | k | k | k | k
  · exact absurd k k1
  · exact absurd k k2
  · exact absurd k k3
  · exact absurd k k7
  · exact absurd k k12
  · -- an operation
    have e1 : plainT e l = opT e.name l := by unfold plainT; rw [if_pos k]
    rw [e1]
    obtain ⟨t', h, ht⟩ := implOp_ok e.name (nd_op hN k) l (by omega)
    refine ⟨TyResF.mk (fun r => plain4_of Y e r l k t' _ h) rfl ht, fun t h => ?_⟩
    rw [opT_eq] at h
    generalize (!l.any fun a => !decide (a.kind = if e.name = opAnd ∨ e.name = opOr ∨ e.name = opNot then 2 else 1)) = c at h
    cases c with
    | false => cases h
    | true =>
      obtain rfl := Option.some.inj h
      split
      · exact bnd_int
      · exact bnd_bool
  · have e1 : plainT e l = some (tRec e.labels l) := by unfold plainT; rw [if_neg (by omega), if_pos k]
    rw [e1]
    have hr := nd_rec hN k
    exact ⟨TyResF.mk (fun r => plain5_of Y e r l k) rfl fun t h => Option.some.inj h, fun t h => by obtain rfl := Option.some.inj h; exact bnd_rec hr.1 (by omega) hT⟩
  · obtain ⟨a, rfl⟩ := len1 (hl.trans (nd_one hN (by omega)))
    have e1 : plainT e [a] = fieldT a e.name := by unfold plainT; simp only [k]; rfl
    rw [e1]
    have ha := hT a List.mem_cons_self
    have hf := implField_ok a ha.ok (by have := ha.z; omega) e.name
    refine ⟨TyResF.mk (fun r => plain6_of Y e r [a] k (by simp) _ _ hf) rfl fun t h => by rw [h]; rfl, fun t h => ?_⟩
    by_cases hc : TyOk a ∧ a.kind = 3 ∧ 0 ≤ idxI (fun x => decide (x = e.name)) a.labels
    · obtain ⟨j, _, hj, h2⟩ := fieldT_at hc
      rw [h2] at h
      obtain rfl := Option.some.inj h
      exact bnd_arg ha (List.getElem_mem hj)
    · rw [fieldT_no hc] at h; cases h
  · obtain ⟨a, rfl⟩ := len1 (hl.trans (nd_one hN (by omega)))
    have e1 : plainT e [a] = some (tBag a) := by unfold plainT; simp only [k]; rfl
    rw [e1]
    exact ⟨TyResF.mk (fun r => plain8_of Y e r [a] k (by simp)) rfl fun t h => Option.some.inj h, fun t h => by obtain rfl := Option.some.inj h; exact bnd_bag (hT a List.mem_cons_self)⟩
  · exact absurd k k13
  · obtain ⟨a, rfl⟩ := len1 (hl.trans (nd_one hN (by omega)))
    have e1 : plainT e [a] = if a.kind = 4 then some tBool else none := by unfold plainT; simp only [k]; rfl
    rw [e1]
    refine ⟨TyResF.mk (fun r => plain15_of Y e r [a] k (by simp)) ?_ fun t h => ?_, fun t h => ?_⟩
    · by_cases c : a.kind = 4 <;> simp [c]
    all_goals
      split at h
      · obtain rfl := Option.some.inj h
        first | rfl | exact bnd_bool
      · cases h
  · obtain ⟨a, rfl⟩ := len1 (hl.trans (nd_one hN (by omega)))
    have e1 : plainT e [a] = if a.kind = 4 then some tInt else none := by unfold plainT; simp only [k]; rfl
    rw [e1]
    refine ⟨TyResF.mk (fun r => plain16_of Y e r [a] k (by simp)) ?_ fun t h => ?_, fun t h => ?_⟩
    · by_cases c : a.kind = 4 <;> simp [c]
    all_goals
      split at h
      · obtain rfl := Option.some.inj h
        first | rfl | exact bnd_int
      · cases h
  · obtain ⟨a, b, rfl⟩ := len2 (hl.trans (nd_two hN (by omega)))
    have e1 : plainT e [a, b] = if a.kind = 4 ∧ a = b then some a else none := by unfold plainT; simp only [k]; rfl
    rw [e1]
    refine ⟨TyResF.mk (fun r => plain9_of Y e r [a, b] hlo k (by simp) (by simp) _ rfl) ?_ fun t h => ?_, fun t h => ?_⟩
    · show decide (a.kind = 4 ∧ a = b) = _
      by_cases c : a.kind = 4 ∧ a = b
      · rw [if_pos c, decide_eq_true c]; rfl
      · rw [if_neg c, decide_eq_false c]; rfl
    · split at h
      · exact Option.some.inj h
      · cases h
    · split at h
      · obtain rfl := Option.some.inj h; exact bnd_ty (hT _ List.mem_cons_self)
      · cases h
  · exact absurd k k10
  · obtain ⟨a, b, rfl⟩ := len2 (hl.trans (nd_two hN (by omega)))
    have ha := hT a List.mem_cons_self
    by_cases c : a.kind = 5
    · obtain ⟨x, y, hxy⟩ := len2 (ha.fn c).2
      have e1 : plainT e [a, b] = if a.kind = 5 ∧ x = b then some y else none := by unfold plainT; simp only [k, hxy]; rfl
      rw [e1]
      by_cases hx : x = b
      · have hx0 : a.args[0]'(by rw [hxy]; simp) = b := by simp [hxy, hx]
        have hh := fun r => plain14_a Y e r [a, b] hlo k (by simp) (by simp) c (by rw [List.getElem_cons_zero, hxy]; simp) (by rw [List.getElem_cons_zero, hxy]; simp) hx0
        have ey : ([a, b][0].args[1]'(by rw [List.getElem_cons_zero, hxy]; simp)) = y := by simp [hxy]
        simp only [ey] at hh
        rw [if_pos ⟨c, hx⟩]
        exact ⟨TyResF.mk hh rfl (fun t h => Option.some.inj h), fun t h => by obtain rfl := Option.some.inj h; exact bnd_arg ha (by rw [hxy]; simp)⟩
      · have hx0 : ¬ a.args[0]'(by rw [hxy]; simp) = b := by simpa [hxy] using hx
        have hh := fun r => plain14_b Y e r [a, b] hlo k (by simp) (by simp) c (by rw [List.getElem_cons_zero, hxy]; simp) hx0
        rw [if_neg fun h => hx h.2]
        have h2 : ∀ r, FnP Tryz.prog 119 [.c (.im (.pt Y)), .c (.im (.pt (eTm e ++ r))), slT eTy [a, b]] (.tp [agT (eTy ty0), bT false]) := fun r => (hh r).treeP rfl
        exact ⟨TyResF.mk h2 rfl (fun t h => by cases h), fun t h => by cases h⟩
    · have e1 : plainT e [a, b] = none := by
        unfold plainT; simp only [k]
        show (match a.args with | [x, y] => if a.kind = 5 ∧ x = b then some y else none | _ => none) = none
        split
        · rw [if_neg fun h => c h.1]
        · rfl
      rw [e1]
      have h2 : ∀ r, FnP Tryz.prog 119 [.c (.im (.pt Y)), .c (.im (.pt (eTm e ++ r))), slT eTy [a, b]] (.tp [agT (eTy ty0), bT false]) := fun r => (plain14_c Y e r [a, b] k (by simp) c).treeP rfl
      exact ⟨TyResF.mk h2 rfl (fun t h => by cases h), fun t h => by cases h⟩
  · obtain ⟨a, b, c, rfl⟩ := len3 (hl.trans (nd_three hN k))
    have e1 : plainT e [a, b, c] = if a.kind = 2 ∧ b = c then some b else none := by unfold plainT; simp only [k]; rfl
    rw [e1]
    refine ⟨TyResF.mk (fun r => plain11_of Y e r [a, b, c] hlo k (by simp) (by simp) (by simp) _ rfl) ?_ fun t h => ?_, fun t h => ?_⟩
    · show decide (a.kind = 2 ∧ b = c) = _
      by_cases g : a.kind = 2 ∧ b = c
      · rw [if_pos g, decide_eq_true g]; rfl
      · rw [if_neg g, decide_eq_false g]; rfl
    · split at h
      · exact Option.some.inj h
      · cases h
    · split at h
      · obtain rfl := Option.some.inj h; exact bnd_ty (hT _ (by simp))
      · cases h
theorem of_res (Y : List IV) (ctx : List Decl) (e : Tm) (o : Option Ty) (H : TyResF Tryz.prog 100 (fun r => [.c (.im (.pt Y)), slT eDecl ctx, .c (.im (.pt (eTm e ++ r)))]) o) (hb : ∀ t, o = some t → okTy (2^20) t ∧ zTy t ≤ 2^40) :
    TyResF Tryz.prog 76 (fun r => [.c (.im (.pt Y)), slT eDecl ctx, .c (.im (.pt (eTm e ++ r)))]) (okT o) := by
  cases o with
  | none =>
    obtain ⟨t', h⟩ := H.no
    exact TyResF.mk (fun r => of_b Y ctx e r t' (h r)) rfl fun t h => (by cases h)
  | some t =>
    obtain ⟨h1, h2⟩ := hb t rfl
    refine TyResF.mk (fun r => of_a Y ctx e r t h1 h2 (H.yes r)) ?_ fun u hu => (Option.some.inj (okT_some hu).1)
    by_cases h : TyOk t
    · rw [okT_of rfl h, decide_eq_true h]; rfl
    · rw [okT_no rfl h, decide_eq_false h]; rfl
/-- What the program's function is known to do, for terms of a size. -/
def OfN (s : List Decl) (n : Nat) : Prop := ∀ e : Tm, msz e ≤ n → TmF e → okTm (2^20) e → ∀ ctx : List Decl, CtxOk ctx → ctx.length + msz e ≤ 2^40 → TyResF Tryz.prog 76 (fun r => [.c (.im (.pt (eSch s))), slT eDecl ctx, .c (.im (.pt (eTm e ++ r)))]) (tyO s n ctx e)
theorem ctxOk_app {ctx : List Decl} {d : Decl} (h : CtxOk ctx) (hd : TyOk d.row) : CtxOk (ctx ++ [d]) := fun x hx => by
  rcases List.mem_append.1 hx with h1 | h1
  · exact h x h1
  · obtain rfl := List.mem_singleton.1 h1; exact hd
theorem form_res (s : List Decl) (hs : okSch (2^20) s) (hrow : ∀ d ∈ s, TyOk d.row) (n : Nat) (IH : OfN s n) (e : Tm) (he : msz e ≤ n + 1) (hF : TmF e) (ho : okTm (2^20) e) (ctx : List Decl) (hc : CtxOk ctx) (hl : ctx.length + msz e ≤ 2^40) :
    TyResF Tryz.prog 100 (fun r => [.c (.im (.pt (eSch s))), slT eDecl ctx, .c (.im (.pt (eTm e ++ r)))]) (tyN s (n + 1) ctx e) ∧ ∀ t, tyN s (n + 1) ctx e = some t → okTy (2^20) t ∧ zTy t ≤ 2^40 := by
  obtain ⟨hN, hFa⟩ := (TmF_eta e).1 hF
  have hoa := (okTm_iff.1 ho).2.2.2.2.2.2
  have hlc : ctx.length ≤ 2^40 := by omega
  have hsub : ∀ a ∈ e.args, ∀ ctx : List Decl, CtxOk ctx → ctx.length + msz a ≤ 2^40 → TyResF Tryz.prog 76 (fun r => [.c (.im (.pt (eSch s))), slT eDecl ctx, .c (.im (.pt (eTm a ++ r)))]) (tyO s n ctx a) := fun a ha ctx h1 h2 =>
    IH a (by have := msz_arg ha; omega) (hFa a ha) (hoa a ha) ctx h1 h2
  by_cases k1 : e.kind = 1
  · have e1 : tyN s (n + 1) ctx e = lookT ctx e.name := by rw [tyN, if_pos k1]
    rw [e1]
    refine ⟨TyResF.mk (fun r => form1_of _ ctx hlc e r k1) rfl fun t h => (by rw [h]; rfl), fun t h => ?_⟩
    obtain ⟨d, hd, rfl⟩ := lookT_mem h
    exact bnd_ty (hc d hd)
  by_cases k2 : e.kind = 2
  · have e1 : tyN s (n + 1) ctx e = some tInt := by rw [tyN, if_neg k1, if_pos k2]
    rw [e1]
    exact ⟨TyResF.mk (fun r => form2_of _ ctx e r k2) rfl (fun t h => Option.some.inj h), fun t h => (by obtain rfl := Option.some.inj h; exact bnd_int)⟩
  by_cases k3 : e.kind = 3
  · have e1 : tyN s (n + 1) ctx e = some tBool := by rw [tyN, if_neg k1, if_neg k2, if_pos k3]
    rw [e1]
    exact ⟨TyResF.mk (fun r => form3_of _ ctx e r k3) rfl (fun t h => Option.some.inj h), fun t h => (by obtain rfl := Option.some.inj h; exact bnd_bool)⟩
  by_cases k12 : e.kind = 12
  · have e1 : tyN s (n + 1) ctx e = (rowT s e.name).map tBag := by rw [tyN, if_neg k1, if_neg k2, if_neg k3, if_pos k12]
    rw [e1]
    refine ⟨TyResF.mk (fun r => form12_of s hs ctx e r k12) (by cases rowT s e.name <;> rfl) fun t h => ?_, fun t h => ?_⟩
    · obtain ⟨u, hu, rfl⟩ := Option.map_eq_some_iff.1 h; rw [hu]; rfl
    · obtain ⟨u, hu, rfl⟩ := Option.map_eq_some_iff.1 h
      obtain ⟨d, hd, rfl⟩ := rowT_mem hu
      exact bnd_bag (hrow d hd)
  by_cases k7 : e.kind = 7
  · have e1 : tyN s (n + 1) ctx e = some (tBag e.ty) := by rw [tyN, if_neg k1, if_neg k2, if_neg k3, if_neg k12, if_pos k7]
    rw [e1]
    exact ⟨TyResF.mk (fun r => form7_of _ ctx e r k7) rfl (fun t h => Option.some.inj h), fun t h => (by obtain rfl := Option.some.inj h; exact bnd_bag (nd_ty hN (.inl k7)))⟩
  by_cases k10 : e.kind = 10
  · obtain ⟨a, b, hab⟩ := len2 (nd_two hN (.inr (.inl k10)))
    have h0 : 0 < e.args.length := by rw [hab]; simp
    have h1 : 1 < e.args.length := by rw [hab]; simp
    have ea : e.args[0] = a := by simp [hab]
    have eb : e.args[1] = b := by simp [hab]
    have ha := List.getElem_mem h0
    have hbm := List.getElem_mem h1
    have za := msz_arg ha
    have zb := msz_arg hbm
    have Ha := hsub _ ha ctx hc (by omega)
    have e1 : tyN s (n + 1) ctx e = (tyO s n ctx e.args[0]).bind fun t => match t.args with
        | [x] => if t.kind = 4 then (tyO s n (ctx ++ [⟨e.name, x⟩]) e.args[1]).bind fun u => if u.kind = 4 then some u else none else none
        | _ => none := by
      rw [tyN, if_neg k1, if_neg k2, if_neg k3, if_neg k12, if_neg k7, if_pos k10, ea, eb, hab]; rfl
    rw [e1]
    cases hA : tyO s n ctx e.args[0] with
    | none =>
      rw [hA] at Ha
      obtain ⟨t', ht'⟩ := Ha.no
      have h2 : ∀ r, FnP Tryz.prog 100 [.c (.im (.pt (eSch s))), slT eDecl ctx, .c (.im (.pt (eTm e ++ r)))] (.tp [agT (eTy ty0), bT false]) := fun r => (form10_a _ ctx e r k10 h0 t' false (by simp) ht').treeP rfl
      exact ⟨TyResF.mk h2 rfl (fun t h => by cases h), fun t h => by cases h⟩
    | some t =>
      rw [hA] at Ha
      have hT := (okT_some hA).2
      by_cases hk : t.kind = 4
      · obtain ⟨x, hx⟩ := len1 (hT.bag hk).2
        have hx0 : 0 < t.args.length := by rw [hx]; simp
        have ex : t.args[0] = x := by simp [hx]
        have Hb := hsub _ hbm (ctx ++ [⟨e.name, t.args[0]⟩])
        have hxk : TyOk t.args[0] := by
          have hbg := hT
          refine ⟨?_, ?_, hT.arg (List.getElem_mem hx0)⟩
          · have h1 := hT.1
            have h2 := tsz_eta t
            have h3 := tszT_succ (l := t.args) (i := 0) hx0
            have h4 := tszT_le (l := t.args) (i := 0 + 1)
            omega
          · exact tdpL_le.1 (show tdpL t.args ≤ 7 by have := tdp_eta t; have := hT.2.1; omega) _ (List.getElem_mem hx0)
        have Hb := Hb (ctxOk_app hc hxk) (by simp; omega)
        have e2 : ((some t).bind fun t => match t.args with
            | [x] => if t.kind = 4 then (tyO s n (ctx ++ [⟨e.name, x⟩]) e.args[1]).bind fun u => if u.kind = 4 then some u else none else none
            | _ => none) = (tyO s n (ctx ++ [⟨e.name, t.args[0]⟩]) e.args[1]).bind fun u => if u.kind = 4 then some u else none := by
          rw [Option.bind_some, ex]; simp only [hx, hk, if_true]
        rw [e2]
        obtain ⟨u', hu', hue⟩ := Hb
        refine ⟨TyResF.mk (fun r => form10_b _ ctx hlc e r k10 h0 h1 t u' _ hk hx0 Ha.yes hu') ?_ fun u hu => ?_, fun u hu => ?_⟩
        · cases hB : tyO s n (ctx ++ [⟨e.name, t.args[0]⟩]) e.args[1] with
          | none => rfl
          | some u =>
            obtain rfl := hue u hB
            by_cases g : u'.kind = 4 <;> simp [g]
        · obtain ⟨v, hv, hv2⟩ := Option.bind_eq_some_iff.1 hu
          obtain rfl := hue v hv
          split at hv2
          · exact Option.some.inj hv2
          · cases hv2
        · obtain ⟨v, hv, hv2⟩ := Option.bind_eq_some_iff.1 hu
          split at hv2
          · obtain rfl := Option.some.inj hv2
            exact bnd_ty (okT_some hv).2
          · cases hv2
      · have e2 : ((some t).bind fun t => match t.args with
            | [x] => if t.kind = 4 then (tyO s n (ctx ++ [⟨e.name, x⟩]) e.args[1]).bind fun u => if u.kind = 4 then some u else none else none
            | _ => none) = none := by
          rw [Option.bind_some]
          split
          · rw [if_neg hk]
          · rfl
        rw [e2]
        have h2 : ∀ r, FnP Tryz.prog 100 [.c (.im (.pt (eSch s))), slT eDecl ctx, .c (.im (.pt (eTm e ++ r)))] (.tp [agT (eTy ty0), bT false]) := fun r => (form10_a _ ctx e r k10 h0 t true (fun h => hk h.2) Ha.yes).treeP rfl
        exact ⟨TyResF.mk h2 rfl (fun t h => by cases h), fun t h => by cases h⟩
  by_cases k13 : e.kind = 13
  · obtain ⟨a, hab⟩ := len1 (nd_one hN (.inr (.inr (.inl k13))))
    have h0 : 0 < e.args.length := by rw [hab]; simp
    have ea : e.args[0] = a := by simp [hab]
    have ha := List.getElem_mem h0
    have za := msz_arg ha
    have hty := nd_ty hN (.inr k13)
    have Ha := hsub _ ha (ctx ++ [⟨e.name, e.ty⟩]) (ctxOk_app hc hty) (by simp; omega)
    have e1 : tyN s (n + 1) ctx e = (tyO s n (ctx ++ [⟨e.name, e.ty⟩]) e.args[0]).map fun t => tFun e.ty t := by
      rw [tyN, if_neg k1, if_neg k2, if_neg k3, if_neg k12, if_neg k7, if_neg k10, if_pos k13, ea, hab]; rfl
    rw [e1]
    obtain ⟨t', ht', hte⟩ := Ha
    have e2 : slI eTy (tFun e.ty t').args = .sl 2 (eTy e.ty ++ eTy t') := by show IV.sl 2 ([e.ty, t'].flatMap eTy) = _; simp
    have h2 : ∀ r, FnP Tryz.prog 100 [.c (.im (.pt (eSch s))), slT eDecl ctx, .c (.im (.pt (eTm e ++ r)))] (.tp [agT (eTy (tFun e.ty t')), bT (tyO s n (ctx ++ [⟨e.name, e.ty⟩]) e.args[0]).isSome]) := fun r => (form13_of _ ctx hlc e r k13 h0 t' _ ht').treeP (by rw [agT, eTy_eta (tFun e.ty t'), e2]; rfl)
    refine ⟨TyResF.mk h2 (by cases tyO s n (ctx ++ [⟨e.name, e.ty⟩]) e.args[0] <;> rfl) fun t h => ?_, fun t h => ?_⟩
    · obtain ⟨u, hu, rfl⟩ := Option.map_eq_some_iff.1 h
      rw [hte u hu]
    · obtain ⟨u, hu, rfl⟩ := Option.map_eq_some_iff.1 h
      exact bnd_fun hty (okT_some hu).2
  have e1 : tyN s (n + 1) ctx e = (allT (e.args.map fun a => tyO s n ctx a)).bind fun l => plainT e l := by
    rw [tyN, if_neg k1, if_neg k2, if_neg k3, if_neg k12, if_neg k7, if_neg k10, if_neg k13]; rfl
  rw [e1]
  have Hall : ∀ u ∈ e.args, ∀ r : List IV, TyRes Tryz.prog 76 [.c (.im (.pt (eSch s))), slT eDecl ctx, .c (.im (.pt (eTm u ++ r)))] (tyO s n ctx u) := fun u hu r => (hsub u hu ctx hc (by have := msz_arg hu; omega)).to r
  cases hA : allT (e.args.map fun a => tyO s n ctx a) with
  | none =>
    have h2 : ∀ r, FnP Tryz.prog 100 [.c (.im (.pt (eSch s))), slT eDecl ctx, .c (.im (.pt (eTm e ++ r)))] (.tp [agT (eTy ty0), bT false]) := fun r => (formN_of _ ctx e r k1 k2 k3 k12 k7 k10 k13 ((all_b _ ctx e r ho (fun a => tyO s n ctx a) Hall hA).treeP rfl)).treeP rfl
    exact ⟨TyResF.mk h2 rfl (fun t h => by cases h), fun t h => by cases h⟩
  | some l =>
    have hlen : l.length = e.args.length := by rw [allT_len hA, List.length_map]
    have hT : ∀ t ∈ l, TyOk t := fun t ht => by
      obtain ⟨a, ha, hat⟩ := List.mem_map.1 (allT_mem hA ht)
      exact (okT_some hat).2
    obtain ⟨Hp, Hb⟩ := plain_res (eSch s) e hN ⟨k1, k2, k3, k12, k7, k10, k13⟩ ho l hlen hT
    rw [Option.bind_some]
    obtain ⟨t', ht', hte⟩ := Hp
    exact ⟨TyResF.mk (fun r => formP_of _ ctx e r k1 k2 k3 k12 k7 k10 k13 l t' _ (all_a _ ctx e r ho (fun a => tyO s n ctx a) Hall l hA) (ht' r)) rfl hte, Hb⟩
theorem of_all (s : List Decl) (hs : okSch (2^20) s) (hrow : ∀ d ∈ s, TyOk d.row) : ∀ n, OfN s n
  | 0 => fun e he => by cases e; simp only [msz] at he; omega
  | n + 1 => fun e he hF ho ctx hc hl => by
    obtain ⟨h1, h2⟩ := form_res s hs hrow n (of_all s hs hrow n) e he hF ho ctx hc hl
    exact of_res _ ctx e _ h1 h2
end Go.VC.T
/- Does a term have a base type? The program's side. -/
namespace Go.VC
open Go
/-- A term of a right form, without functions, of a base type. -/
noncomputable def hasB (s : List Decl) (ctx : List Decl) (e : Tm) (k : Int) : Bool := decide (TmF e ∧ BsT false e ∧ ∃ t, tyO s (msz e) ctx e = some t ∧ t.kind = k)
theorem hasB_no {s ctx : List Decl} {e : Tm} {k : Int} (h : ¬ (TmF e ∧ BsT false e ∧ ∃ t, tyO s (msz e) ctx e = some t ∧ t.kind = k)) : hasB s ctx e k = false := decide_eq_false h
end Go.VC
namespace Go.VC.T
open Go Go.VC Go.Proofs Go.VC.F
def fc36A91 := (ai (ai (ai (ai (ai sz3 ag3) (ai zv3 (ai un3 sz4))) (ai (ai ag4 zv4) (ai un4 (ai sz39 ag39)))) (ai (ai (ai zv39 fl39_0) (ai pl39 (ai sz43 ag43))) (ai (ai zv43 (ai fl43_0 fl43_1)) (ai fl43_2 (ai pl43 sz70))))) (ai (ai (ai (ai ag70 zv70) (ai sb70 (ai un70 el70))) (ai (ai ap70 sz77) (ai ag77 (ai zv77 un77)))) (ai (ai (ai sz105 ag105) (ai zv105 (ai fl105_0 pl105))) (ai (ai okf74 (ai okf75 okf76)) (ai sz37 (ai sz25 sz41))))))
theorem hasBase_of (s : List Decl) (ctx : List Decl) (e : Tm) (he : okTm (2^20) e) (hz : zTm e ≤ 2^40) (k : Int) (r : List IV) (t : Ty) (b : Bool) (H : TmF e → FnP Tryz.prog 76 [.c (.im (.pt (eSch s))), slT eDecl ctx, .c (.im (.pt (eTm e ++ r)))] (.tp [agT (eTy t), bT b])) : FnS Tryz.prog 36 [] [agT (eSch s), slT eDecl ctx, .c (.im (.pt (eTm e ++ r))), iT k] [] (bT (decide (TmF e) && (decide (BsT false e) && (b && decide (t.kind = k))))) := by
  refine FnS.go [0, 1, 2, 3, 4, 8, 9, 10, 11, 19] [] Tryz.func36 rfl (fun kt kz => ?_)
  have fcx := fc36A91
  simp only [Tryz.f36]
  refine Run ((ai @eSch_eta (ai @eTm_eta @eTy_eta))) ?_; with_reducible repeat' (first | exact True.intro | refine Lf.mk ?_ ?_ | intro hb)
  refine Cal ((ai @eTm_eta @eTy_eta)) (termForm_ok e he hz r) ?_
  by_cases hF : TmF e
  · have gF := eq_true hF
    refine Run ((ai (ai @eSch_eta @eTm_eta) (ai @eTy_eta @gF))) ?_; with_reducible repeat' (first | exact True.intro | refine Lf.mk ?_ ?_ | intro hb)
    refine Cal ((ai @eTm_eta @eTy_eta)) (baseTerm_ok e he r false) ?_
    by_cases hB : BsT false e
    · have gB := eq_true hB
      refine Run ((ai (ai @eSch_eta @eTm_eta) (ai @eTy_eta (ai @gF @gB)))) ?_; with_reducible repeat' (first | exact True.intro | refine Lf.mk ?_ ?_ | intro hb)
      refine CallG.frz1 18 rfl ?_
      simp -dsimp (maxSteps := 2000000) (disch := omega) only [vs, ↓Option.bind_some, ev1, ofV, scalarB, Kn, Kb, calleeOf, evLoad, ptr, evField, evFieldAddr, shift, ↓pt_at, ↓pt_at1, evExtract, evBin, evLen, evConv, cellsT, noS, Cell.has, Cell.hasN, Cell.anyN, toIV, toIV0, toIVs, ownC, srcM, Ob.own, Ob.esz, allSc, nilK, lenC, ownCell, isPtr, ptrNil, frzO, Cell.frz, Cell.keys, ↓reduceIte, reduceCtorEq, Nat.reduceEqDiff, Nat.reduceBEq, Nat.reduceBNe, Nat.reduceAdd, Nat.reduceMul, Nat.reduceSub, Nat.reduceLT, Nat.reduceLeDiff, Nat.reducePow, Int.reduceLT, Int.reduceLE, Int.reduceEq, Int.reduceNe, quietB, Nat.reduceMod, Int.reduceToNat, ne_eq, eq_self, exists_const, evBytes, byRow, byL, byStr_size, ifsz, ByteArray.size_append, Option.none_or, Option.some_or, evLook, keyD, fc36A91, eSch_eta]
      refine CalI ((ai @eSch_eta (ai @eTm_eta @eTy_eta))) (H hF) ?_
      refine Run ((ai @eSch_eta (ai @eTm_eta @eTy_eta))) ?_; with_reducible repeat' (first | exact True.intro | refine Lf.mk ?_ ?_ | intro hb)
      refine ⟨rfl, rfl, ?_⟩
      refine Run ((ai @eSch_eta (ai @eTm_eta @eTy_eta))) ?_; with_reducible repeat' (first | exact True.intro | refine Lf.mk ?_ ?_ | intro hb)
    · have gB := eq_false hB
      refine Run ((ai (ai @eSch_eta @eTm_eta) (ai @eTy_eta (ai @gF @gB)))) ?_; with_reducible repeat' (first | exact True.intro | refine Lf.mk ?_ ?_ | intro hb)
  · have gF := eq_false hF
    refine Run ((ai (ai @eSch_eta @eTm_eta) (ai @eTy_eta @gF))) ?_; with_reducible repeat' (first | exact True.intro | refine Lf.mk ?_ ?_ | intro hb)

end Go.VC.T
/- What types terms have: the reference's function, by recursion. -/
namespace Go.VC
open Go
mutual
theorem msz_le : ∀ v : Tm, msz v ≤ 1 + zTm v
  | .mk k s n t l ws => by
    have := mszL_le ws
    rw [msz, zTm_eta]
    show 1 + mszL ws ≤ 1 + (zS s + zTy t + zSL l + zL zTm ws)
    omega
theorem mszL_le : ∀ l : List Tm, mszL l ≤ zL zTm l
  | [] => by simp [mszL]
  | a :: r => by
    have h1 := msz_le a
    have h2 := mszL_le r
    unfold zL at *
    rw [mszL]; simp only [List.length_cons, List.map_cons, List.sum_cons]; omega
end
theorem sum_mem {α : Type} {z : α → Nat} {x : α} : ∀ {l : List α}, x ∈ l → z x ≤ (l.map z).sum
  | a :: r, h => by
    rw [List.map_cons, List.sum_cons]
    rcases List.mem_cons.1 h with rfl | h
    · omega
    · have := sum_mem (z := z) h; omega
theorem zTm_lt {v a : Tm} (h : a ∈ v.args) : zTm a + v.args.length ≤ zTm v := by
  have h2 : zTm a ≤ (v.args.map zTm).sum := sum_mem h
  rw [zTm_eta v]; unfold zL; omega
theorem ok_ty0 : okTy (2^20) ty0 := by
  refine okTy_iff.2 ⟨⟨by decide, by decide⟩, ⟨by simp [ty0, Ty.labels], by simp [ty0, Ty.labels]⟩, ⟨by simp [ty0, Ty.args], by simp [ty0, Ty.args]⟩⟩
theorem nd_none {e : Tm} (h : NdOk e) (k : e.kind = 1 ∨ e.kind = 2 ∨ e.kind = 3 ∨ e.kind = 7 ∨ e.kind = 12) : e.args.length = 0 := by
  have := h.1
  unfold arK at this
  rw [if_pos k] at this
  exact (Option.some.inj this).symm
theorem TyRes.of {P : Program} {g : FuncId} {args : List TV} {o : Option Ty} (h : FnP P g args (.tp [agT (eTy (o.getD ty0)), bT o.isSome])) : TyRes P g args o := ⟨_, h, fun t h => by rw [h]; rfl⟩
theorem tyO_ok {s : List Decl} {n : Nat} {ctx : List Decl} {e : Tm} : okTy (2^20) ((tyO s n ctx e).getD ty0) := by
  cases h : tyO s n ctx e with
  | none => exact ok_ty0
  | some t => exact (okT_some h).2.ok
theorem nd_pos {e : Tm} (h : NdOk e) (k : ¬ e.kind = 1 ∧ ¬ e.kind = 2 ∧ ¬ e.kind = 3 ∧ ¬ e.kind = 12 ∧ ¬ e.kind = 7) : ¬ e.args.length = 0 := by
  intro h0
  rcases nd_kind h with g | g | g | g | g | g | g | g | g | g | g | g | g | g | g | g
  · exact k.1 g
  · exact k.2.1 g
  · exact k.2.2.1 g
  · exact k.2.2.2.2 g
  · exact k.2.2.2.1 g
  · have := nd_op h g
    have h1 := h.1
    unfold arK at h1
    rw [if_neg (by omega), if_pos g, if_neg this] at h1
    have := Option.some.inj h1
    omega
  · have := nd_rec h g
    have := this.1.2.1
    omega
  all_goals first | (have := nd_one h (by omega); omega) | (have := nd_two h (by omega); omega) | (have := nd_three h (by omega); omega)
end Go.VC
namespace Go.VC.T
open Go Go.VC Go.Proofs Go.VC.F
/-- Forms that bind nothing. -/
theorem sform_res (e : Tm) (hN : NdOk e) (hk : ¬ e.kind = 1 ∧ ¬ e.kind = 2 ∧ ¬ e.kind = 3 ∧ ¬ e.kind = 12 ∧ ¬ e.kind = 7 ∧ ¬ e.kind = 10 ∧ ¬ e.kind = 13) (ho : okTm (2^20) e) (l : List Ty) (hl : l.length = e.args.length) (hT : ∀ t ∈ l, TyOk t) :
    TyRes Tryz.prog 108 [agT (eTm e), slT eTy l] (plainT e l) := by
  obtain ⟨k1, k2, k3, k12, k7, k10, k13⟩ := hk
  have hln := (okTm_iff.1 ho).2.2.2.2.2.1
  have hlo : ∀ t ∈ l, okTy (2^20) t := fun t h => (hT t h).ok
  rcases nd_kind hN with k | k | k | k | k | k | k | k | k | k | k | k | k | k | k | k
  · exact absurd k k1
  · exact absurd k k2
  · exact absurd k k3
  · exact absurd k k7
  · exact absurd k k12
  · have e1 : plainT e l = opT e.name l := by unfold plainT; rw [if_pos k]
    rw [e1]
    exact TyRes.of (sf4_of e l k _ _ (specOp_ok e.name (nd_op hN k) l (by omega)))
  · have e1 : plainT e l = some (tRec e.labels l) := by unfold plainT; rw [if_neg (by omega), if_pos k]
    rw [e1]
    have hr := nd_rec hN k
    exact TyRes.mk (sf5_of e (by have := hr.1.2.1; omega) l ⟨by omega, hlo⟩ k) rfl fun t h => Option.some.inj h
  · obtain ⟨a, rfl⟩ := len1 (hl.trans (nd_one hN (by omega)))
    have e1 : plainT e [a] = fieldT a e.name := by unfold plainT; simp only [k]; rfl
    rw [e1]
    have ha := hT a List.mem_cons_self
    exact TyRes.of (sf6_of e [a] k (by simp) _ _ (specField_ok a ha.ok (by have := ha.z; omega) e.name))
  · obtain ⟨a, rfl⟩ := len1 (hl.trans (nd_one hN (by omega)))
    have e1 : plainT e [a] = some (tBag a) := by unfold plainT; simp only [k]; rfl
    rw [e1]
    exact TyRes.mk (sf8_of e [a] k (by simp) (hlo _ List.mem_cons_self)) rfl fun t h => Option.some.inj h
  · exact absurd k k13
  · obtain ⟨a, rfl⟩ := len1 (hl.trans (nd_one hN (by omega)))
    have e1 : plainT e [a] = if a.kind = 4 then some tBool else none := by unfold plainT; simp only [k]; rfl
    rw [e1]
    refine TyRes.mk (sf15_of e [a] k (by simp)) ?_ fun t h => ?_
    · show decide (a.kind = 4) = _
      by_cases c : a.kind = 4 <;> simp [c]
    · split at h
      · exact Option.some.inj h
      · cases h
  · obtain ⟨a, rfl⟩ := len1 (hl.trans (nd_one hN (by omega)))
    have e1 : plainT e [a] = if a.kind = 4 then some tInt else none := by unfold plainT; simp only [k]; rfl
    rw [e1]
    refine TyRes.mk (sf16_of e [a] k (by simp)) ?_ fun t h => ?_
    · show decide (a.kind = 4) = _
      by_cases c : a.kind = 4 <;> simp [c]
    · split at h
      · exact Option.some.inj h
      · cases h
  · obtain ⟨a, b, rfl⟩ := len2 (hl.trans (nd_two hN (by omega)))
    have e1 : plainT e [a, b] = if a.kind = 4 ∧ a = b then some a else none := by unfold plainT; simp only [k]; rfl
    rw [e1]
    refine TyRes.mk (sf9_of e [a, b] hlo k (by simp) (by simp) _ rfl) ?_ fun t h => ?_
    · show decide (a.kind = 4 ∧ a = b) = _
      by_cases c : a.kind = 4 ∧ a = b
      · rw [if_pos c, decide_eq_true c]; rfl
      · rw [if_neg c, decide_eq_false c]; rfl
    · split at h
      · exact Option.some.inj h
      · cases h
  · exact absurd k k10
  · obtain ⟨a, b, rfl⟩ := len2 (hl.trans (nd_two hN (by omega)))
    have ha := hT a List.mem_cons_self
    by_cases c : a.kind = 5
    · obtain ⟨x, y, hxy⟩ := len2 (ha.fn c).2
      have e1 : plainT e [a, b] = if a.kind = 5 ∧ x = b then some y else none := by unfold plainT; simp only [k, hxy]; rfl
      rw [e1]
      by_cases hx : x = b
      · have hx0 : a.args[0]'(by rw [hxy]; simp) = b := by simp [hxy, hx]
        have hh := sf14_a e [a, b] hlo k (by simp) (by simp) c (by rw [List.getElem_cons_zero, hxy]; simp) (by rw [List.getElem_cons_zero, hxy]; simp) hx0
        have ey : ([a, b][0].args[1]'(by rw [List.getElem_cons_zero, hxy]; simp)) = y := by simp [hxy]
        simp only [ey] at hh
        rw [if_pos ⟨c, hx⟩]
        exact TyRes.mk hh rfl (fun t h => Option.some.inj h)
      · have hx0 : ¬ a.args[0]'(by rw [hxy]; simp) = b := by simpa [hxy] using hx
        have hh := sf14_b e [a, b] hlo k (by simp) (by simp) c (by rw [List.getElem_cons_zero, hxy]; simp) hx0
        rw [if_neg fun h => hx h.2]
        have h2 : FnP Tryz.prog 108 [agT (eTm e), slT eTy [a, b]] (.tp [agT (eTy ty0), bT false]) := hh.treeP rfl
        exact TyRes.mk h2 rfl (fun t h => by cases h)
    · have e1 : plainT e [a, b] = none := by
        unfold plainT; simp only [k]
        show (match a.args with | [x, y] => if a.kind = 5 ∧ x = b then some y else none | _ => none) = none
        split
        · rw [if_neg fun h => c h.1]
        · rfl
      rw [e1]
      have h2 : FnP Tryz.prog 108 [agT (eTm e), slT eTy [a, b]] (.tp [agT (eTy ty0), bT false]) := (sf14_c e [a, b] k (by simp) c).treeP rfl
      exact TyRes.mk h2 rfl (fun t h => by cases h)
  · obtain ⟨a, b, c, rfl⟩ := len3 (hl.trans (nd_three hN k))
    have e1 : plainT e [a, b, c] = if a.kind = 2 ∧ b = c then some b else none := by unfold plainT; simp only [k]; rfl
    rw [e1]
    refine TyRes.mk (sf11_of e [a, b, c] hlo k (by simp) (by simp) (by simp) _ rfl) ?_ fun t h => ?_
    · show decide (a.kind = 2 ∧ b = c) = _
      by_cases g : a.kind = 2 ∧ b = c
      · rw [if_pos g, decide_eq_true g]; rfl
      · rw [if_neg g, decide_eq_false g]; rfl
    · split at h
      · exact Option.some.inj h
      · cases h
theorem stype_res (s ctx : List Decl) (e : Tm) (o : Option Ty) (H : TyRes Tryz.prog 90 [agT (eSch s), slT eDecl ctx, agT (eTm e)] o) (hb : ∀ t, o = some t → okTy (2^20) t ∧ zTy t ≤ 2^40) :
    FnP Tryz.prog 67 [agT (eSch s), slT eDecl ctx, agT (eTm e)] (.tp [agT (eTy ((okT o).getD ty0)), bT (okT o).isSome]) := by
  cases o with
  | none =>
    obtain ⟨t', h⟩ := H.no
    exact (sType_c s ctx e t' h).treeP rfl
  | some t =>
    obtain ⟨h1, h2⟩ := hb t rfl
    by_cases h : TyOk t
    · rw [okT_of rfl h]; exact sType_a s ctx e t h H.yes
    · rw [okT_no rfl h]; exact (sType_b s ctx e t h h1 h2 H.yes).treeP rfl
/-- What the reference's function is known to do, for terms of a size. -/
def SOfN (s : List Decl) (n : Nat) : Prop := ∀ e : Tm, msz e ≤ n → TmF e → okTm (2^20) e → ∀ ctx : List Decl, CtxOk ctx → ctx.length + zTm e ≤ 2^20 + 2 → FnP Tryz.prog 67 [agT (eSch s), slT eDecl ctx, agT (eTm e)] (.tp [agT (eTy ((tyO s n ctx e).getD ty0)), bT (tyO s n ctx e).isSome])
theorem some_res (s : List Decl) (hs : okSch (2^20) s) (hrow : ∀ d ∈ s, TyOk d.row) (n : Nat) (IH : SOfN s n) (e : Tm) (he : msz e ≤ n + 1) (hF : TmF e) (ho : okTm (2^20) e) (ctx : List Decl) (hc : CtxOk ctx) (hl : ctx.length + zTm e ≤ 2^20 + 2) :
    TyRes Tryz.prog 90 [agT (eSch s), slT eDecl ctx, agT (eTm e)] (tyN s (n + 1) ctx e) := by
  obtain ⟨hN, hFa⟩ := (TmF_eta e).1 hF
  have hoa := (okTm_iff.1 ho).2.2.2.2.2.2
  have hlc : ctx.length ≤ 2^40 := by omega
  have hco : ∀ d ∈ ctx, okTy (2^20) d.row := fun d hd => (hc d hd).ok
  have hsub : ∀ a ∈ e.args, ∀ ctx : List Decl, CtxOk ctx → ctx.length + zTm a ≤ 2^20 + 2 → FnP Tryz.prog 67 [agT (eSch s), slT eDecl ctx, agT (eTm a)] (.tp [agT (eTy ((tyO s n ctx a).getD ty0)), bT (tyO s n ctx a).isSome]) := fun a ha ctx h1 h2 =>
    IH a (by have := msz_arg ha; omega) (hFa a ha) (hoa a ha) ctx h1 h2
  by_cases k1 : e.kind = 1
  · have e1 : tyN s (n + 1) ctx e = lookT ctx e.name := by rw [tyN, if_pos k1]
    rw [e1]
    exact TyRes.of (some_b s ctx e (by omega) (by omega) (nd_none hN (by omega)) _ _ (leaf1_of s ctx hlc hco e k1))
  by_cases k2 : e.kind = 2
  · have e1 : tyN s (n + 1) ctx e = some tInt := by rw [tyN, if_neg k1, if_pos k2]
    rw [e1]
    exact TyRes.mk (some_b s ctx e (by omega) (by omega) (nd_none hN (by omega)) _ _ (leaf2_of s ctx e k2)) rfl fun t h => Option.some.inj h
  by_cases k3 : e.kind = 3
  · have e1 : tyN s (n + 1) ctx e = some tBool := by rw [tyN, if_neg k1, if_neg k2, if_pos k3]
    rw [e1]
    exact TyRes.mk (some_b s ctx e (by omega) (by omega) (nd_none hN (by omega)) _ _ (leaf3_of s ctx e k3)) rfl fun t h => Option.some.inj h
  by_cases k12 : e.kind = 12
  · have e1 : tyN s (n + 1) ctx e = (rowT s e.name).map tBag := by rw [tyN, if_neg k1, if_neg k2, if_neg k3, if_pos k12]
    rw [e1]
    have hob : okTy (2^20) ((rowT s e.name).getD ty0) := by
      cases h : rowT s e.name with
      | none => exact ok_ty0
      | some t =>
        obtain ⟨d, hd, rfl⟩ := rowT_mem h
        exact (hrow d hd).ok
    refine TyRes.mk (some_b s ctx e (by omega) (by omega) (nd_none hN (by omega)) _ _ (leaf12_of s ctx hs e k12 hob)) (by cases rowT s e.name <;> rfl) fun t h => ?_
    obtain ⟨u, hu, rfl⟩ := Option.map_eq_some_iff.1 h; rw [hu]; rfl
  by_cases k7 : e.kind = 7
  · have e1 : tyN s (n + 1) ctx e = some (tBag e.ty) := by rw [tyN, if_neg k1, if_neg k2, if_neg k3, if_neg k12, if_pos k7]
    rw [e1]
    exact TyRes.mk (some_b s ctx e (by omega) (by omega) (nd_none hN (by omega)) _ _ (leaf7_of s ctx e k7 (nd_ty hN (.inl k7)).ok)) rfl fun t h => Option.some.inj h
  by_cases k10 : e.kind = 10
  · obtain ⟨a, b, hab⟩ := len2 (nd_two hN (.inr (.inl k10)))
    have h0 : 0 < e.args.length := by rw [hab]; simp
    have h1 : 1 < e.args.length := by rw [hab]; simp
    have ea : e.args[0] = a := by simp [hab]
    have eb : e.args[1] = b := by simp [hab]
    have ha := List.getElem_mem h0
    have hbm := List.getElem_mem h1
    have za := zTm_lt ha
    have zb := zTm_lt hbm
    have Ha := hsub _ ha ctx hc (by omega)
    have e1 : tyN s (n + 1) ctx e = (tyO s n ctx e.args[0]).bind fun t => match t.args with
        | [x] => if t.kind = 4 then (tyO s n (ctx ++ [⟨e.name, x⟩]) e.args[1]).bind fun u => if u.kind = 4 then some u else none else none
        | _ => none := by
      rw [tyN, if_neg k1, if_neg k2, if_neg k3, if_neg k12, if_neg k7, if_pos k10, ea, eb, hab]; rfl
    rw [e1]
    cases hA : tyO s n ctx e.args[0] with
    | none =>
      rw [hA] at Ha
      have h2 : FnP Tryz.prog 106 [agT (eSch s), slT eDecl ctx, agT (eTm e)] (.tp [agT (eTy ty0), bT false]) := (sb10_a s ctx e k10 h0 ty0 false (by simp) Ha).treeP rfl
      exact TyRes.mk (some_a s ctx e (.inr k10) _ _ h2) rfl (fun t h => by cases h)
    | some t =>
      rw [hA] at Ha
      have Ha : FnP Tryz.prog 67 [agT (eSch s), slT eDecl ctx, agT (eTm e.args[0])] (.tp [agT (eTy t), bT true]) := Ha
      have hT := (okT_some hA).2
      by_cases hk : t.kind = 4
      · obtain ⟨x, hx⟩ := len1 (hT.bag hk).2
        have hx0 : 0 < t.args.length := by rw [hx]; simp
        have ex : t.args[0] = x := by simp [hx]
        have hxk : TyOk t.args[0] := by
          refine ⟨?_, ?_, hT.arg (List.getElem_mem hx0)⟩
          · have h1 := hT.1
            have h2 := tsz_eta t
            have h3 := tszT_succ (l := t.args) (i := 0) hx0
            have h4 := tszT_le (l := t.args) (i := 0 + 1)
            omega
          · exact tdpL_le.1 (show tdpL t.args ≤ 7 by have := tdp_eta t; have := hT.2.1; omega) _ (List.getElem_mem hx0)
        have Hb := hsub _ hbm (ctx ++ [⟨e.name, t.args[0]⟩]) (ctxOk_app hc hxk) (by simp; omega)
        have e2 : ((some t).bind fun t => match t.args with
            | [x] => if t.kind = 4 then (tyO s n (ctx ++ [⟨e.name, x⟩]) e.args[1]).bind fun u => if u.kind = 4 then some u else none else none
            | _ => none) = (tyO s n (ctx ++ [⟨e.name, t.args[0]⟩]) e.args[1]).bind fun u => if u.kind = 4 then some u else none := by
          rw [Option.bind_some, ex]; simp only [hx, hk, if_true]
        rw [e2]
        have hS := some_a s ctx e (.inr k10) _ _ (sb10_b s ctx (by omega) e k10 h0 h1 t _ _ hk hx0 Ha Hb)
        cases hB : tyO s n (ctx ++ [⟨e.name, t.args[0]⟩]) e.args[1] with
        | none => rw [hB] at hS; exact TyRes.mk hS rfl (fun u hu => by cases hu)
        | some u =>
          rw [hB] at hS
          refine TyRes.mk hS ?_ fun v hv => ?_
          · show (true && decide (u.kind = 4)) = _
            by_cases g : u.kind = 4 <;> simp [g]
          · rw [Option.bind_some] at hv
            split at hv
            · exact Option.some.inj hv
            · cases hv
      · have e2 : ((some t).bind fun t => match t.args with
            | [x] => if t.kind = 4 then (tyO s n (ctx ++ [⟨e.name, x⟩]) e.args[1]).bind fun u => if u.kind = 4 then some u else none else none
            | _ => none) = none := by
          rw [Option.bind_some]
          split
          · rw [if_neg hk]
          · rfl
        rw [e2]
        have h2 : FnP Tryz.prog 106 [agT (eSch s), slT eDecl ctx, agT (eTm e)] (.tp [agT (eTy ty0), bT false]) := (sb10_a s ctx e k10 h0 t true (fun h => hk h.2) Ha).treeP rfl
        exact TyRes.mk (some_a s ctx e (.inr k10) _ _ h2) rfl (fun t h => by cases h)
  by_cases k13 : e.kind = 13
  · obtain ⟨a, hab⟩ := len1 (nd_one hN (.inr (.inr (.inl k13))))
    have h0 : 0 < e.args.length := by rw [hab]; simp
    have ea : e.args[0] = a := by simp [hab]
    have ha := List.getElem_mem h0
    have za := zTm_lt ha
    have hty := nd_ty hN (.inr k13)
    have Ha := hsub _ ha (ctx ++ [⟨e.name, e.ty⟩]) (ctxOk_app hc hty) (by simp; omega)
    have e1 : tyN s (n + 1) ctx e = (tyO s n (ctx ++ [⟨e.name, e.ty⟩]) e.args[0]).map fun t => tFun e.ty t := by
      rw [tyN, if_neg k1, if_neg k2, if_neg k3, if_neg k12, if_neg k7, if_neg k10, if_pos k13, ea, hab]; rfl
    rw [e1]
    have zn : 1 ≤ zTm e := by omega
    have hcl : ctx.length ≤ 2^20 := by
      have hn : NameOk e.name := by
        have := hN.2.2.2.1
        unfold NdNm at this
        rwa [if_pos (show nmK e.kind from .inr (.inr (.inr (.inr k13))))] at this
      have h1 : 1 ≤ zS e.name := hn.2.1.1
      have h2 := zTm_eta e
      have h3 := zL_len (z := zTm) (l := e.args)
      omega
    have hS := some_a s ctx e (.inl k13) _ _ (sb13_of s ctx hcl e k13 h0 hty.ok _ tyO_ok _ Ha)
    refine TyRes.mk hS (by cases tyO s n (ctx ++ [⟨e.name, e.ty⟩]) e.args[0] <;> rfl) fun t h => ?_
    obtain ⟨u, hu, rfl⟩ := Option.map_eq_some_iff.1 h
    rw [hu]; rfl
  have e1 : tyN s (n + 1) ctx e = (allT (e.args.map fun a => tyO s n ctx a)).bind fun l => plainT e l := by
    rw [tyN, if_neg k1, if_neg k2, if_neg k3, if_neg k12, if_neg k7, if_neg k10, if_neg k13]; rfl
  rw [e1]
  have k0 : ¬ e.args.length = 0 := nd_pos hN ⟨k1, k2, k3, k12, k7⟩
  have Hall : ∀ u ∈ e.args, FnP Tryz.prog 67 [agT (eSch s), slT eDecl ctx, agT (eTm u)] (.tp [agT (eTy ((tyO s n ctx u).getD ty0)), bT (tyO s n ctx u).isSome]) := fun u hu => hsub u hu ctx hc (by have := zTm_lt hu; omega)
  cases hA : allT (e.args.map fun a => tyO s n ctx a) with
  | none =>
    have h2 : FnP Tryz.prog 90 [agT (eSch s), slT eDecl ctx, agT (eTm e)] (.tp [agT (eTy ty0), bT false]) := (some_d s ctx e ho k13 k10 k0 (fun a => tyO s n ctx a) Hall hA).treeP rfl
    exact TyRes.mk h2 rfl (fun t h => by cases h)
  | some l =>
    have hlen : l.length = e.args.length := by rw [allT_len hA, List.length_map]
    have hT : ∀ t ∈ l, TyOk t := fun t ht => by
      obtain ⟨a, ha, hat⟩ := List.mem_map.1 (allT_mem hA ht)
      exact (okT_some hat).2
    have Hp := sform_res e hN ⟨k1, k2, k3, k12, k7, k10, k13⟩ ho l hlen hT
    rw [Option.bind_some]
    obtain ⟨t', ht', hte⟩ := Hp
    exact ⟨t', some_c s ctx e ho k13 k10 k0 (fun a => tyO s n ctx a) Hall l hA t' _ ht', hte⟩
theorem sof_all (s : List Decl) (hs : okSch (2^20) s) (hrow : ∀ d ∈ s, TyOk d.row) : ∀ n, SOfN s n
  | 0 => fun e he => by cases e; simp only [msz] at he; omega
  | n + 1 => fun e he hF ho ctx hc hl => by
    have hm := msz_le e
    exact stype_res s ctx e _ (some_res s hs hrow n (sof_all s hs hrow n) e he hF ho ctx hc hl) (form_res s hs hrow n (of_all s hs hrow n) e he hF ho ctx hc (by omega)).2
end Go.VC.T
/- Does a term have a base type? Both sides. -/
namespace Go.VC
open Go
theorem hasB_eq (s ctx : List Decl) (e : Tm) (k : Int) : (decide (TmF e) && (decide (BsT false e) && ((tyO s (msz e) ctx e).isSome && decide (((tyO s (msz e) ctx e).getD ty0).kind = k)))) = hasB s ctx e k := by
  unfold hasB
  cases tyO s (msz e) ctx e with
  | none => simp
  | some t => by_cases h1 : TmF e <;> by_cases h2 : BsT false e <;> by_cases h3 : t.kind = k <;> simp [h1, h2, h3]
theorem hasB_eq2 (s ctx : List Decl) (e : Tm) (t : Ty) (b : Bool) (hb : b = (tyO s (msz e) ctx e).isSome) (ht : ∀ u, tyO s (msz e) ctx e = some u → t = u) (k : Int) : (decide (TmF e) && (decide (BsT false e) && (b && decide (t.kind = k)))) = hasB s ctx e k := by
  rw [← hasB_eq]
  cases h : tyO s (msz e) ctx e with
  | none => rw [h] at hb; subst hb; simp
  | some u => rw [h] at hb; subst hb; rw [ht u h]; rfl
theorem tBool_iff {t : Ty} (h : TyOk t) : t = tBool ↔ t.kind = 2 := by
  constructor
  · rintro rfl; rfl
  · intro k
    have hd := h.hd
    cases t with
    | mk kk l a =>
      obtain rfl : kk = 2 := k
      unfold THd at hd
      simp [Ty.kind, Ty.labels, Ty.args] at hd
      obtain ⟨rfl, rfl⟩ := hd
      rfl
theorem hasB_eq3 (s ctx : List Decl) (e : Tm) : (decide (TmF e) && (decide (BsT false e) && ((tyO s (msz e) ctx e).isSome && decide ((tyO s (msz e) ctx e).getD ty0 = tBool)))) = hasB s ctx e 2 := by
  rw [← hasB_eq]
  cases h : tyO s (msz e) ctx e with
  | none => rfl
  | some u =>
    have : decide (u = tBool) = decide (u.kind = 2) := decide_eq_decide.2 (tBool_iff (okT_some h).2)
    show (decide (TmF e) && (decide (BsT false e) && (true && decide (u = tBool)))) = (decide (TmF e) && (decide (BsT false e) && (true && decide (u.kind = 2))))
    rw [this]
end Go.VC
namespace Go.VC.T
open Go Go.VC Go.Proofs Go.VC.F
def fc29A107 := (ai (ai (ai (ai (ai sz4 ag4) (ai zv4 (ai un4 sz39))) (ai (ai ag39 zv39) (ai fl39_0 (ai pl39 sz43)))) (ai (ai (ai ag43 zv43) (ai fl43_0 (ai fl43_1 fl43_2))) (ai (ai pl43 (ai sz46 ag46)) (ai zv46 (ai fl46_0 fl46_1))))) (ai (ai (ai (ai fl46_2 fl46_3) (ai fl46_4 (ai fl46_5 pl46))) (ai (ai sz70 (ai ag70 zv70)) (ai sb70 (ai un70 el70)))) (ai (ai (ai ap70 okf65) (ai okf66 (ai okf67 okf68))) (ai (ai sz37 (ai sz3 sz25)) (ai sz41 (ai sz9 sz44))))))
theorem sHas_of (s ctx : List Decl) (e : Tm) (he : okTm (2^20) e) (hz : zTm e ≤ 2^40) (w : Ty) (hw : okTy (2^20) w) (t : Ty) (ht : okTy (2^20) t) (b : Bool) (H : TmF e → FnP Tryz.prog 67 [agT (eSch s), slT eDecl ctx, agT (eTm e)] (.tp [agT (eTy t), bT b])) : FnS Tryz.prog 29 [] [agT (eSch s), slT eDecl ctx, agT (eTm e), agT (eTy w)] [] (bT (decide (TmF e) && (decide (BsT false e) && (b && decide (t = w))))) := by
  refine FnS.go [0, 1, 2, 3, 4, 6, 7, 8, 9, 10, 17] [] Tryz.func29 rfl (fun kt kz => ?_)
  have fcx := fc29A107
  simp only [Tryz.f29]
  refine Run ((ai @eSch_eta (ai @eTm_eta @eTy_eta))) ?_; with_reducible repeat' (first | exact True.intro | refine Lf.mk ?_ ?_ | intro hb)
  refine Cal ((ai @eTm_eta @eTy_eta)) (l7Form_ok e he hz) ?_
  by_cases hF : TmF e
  · have gF := eq_true hF
    refine Run ((ai (ai @eSch_eta @eTm_eta) (ai @eTy_eta @gF))) ?_; with_reducible repeat' (first | exact True.intro | refine Lf.mk ?_ ?_ | intro hb)
    refine Cal ((ai @eTm_eta @eTy_eta)) (specBase_ok e he hF) ?_
    by_cases hB : BsT false e
    · have gB := eq_true hB
      refine Run ((ai (ai @eSch_eta @eTm_eta) (ai @eTy_eta (ai @gF @gB)))) ?_; with_reducible repeat' (first | exact True.intro | refine Lf.mk ?_ ?_ | intro hb)
      refine CalI ((ai @eSch_eta (ai @eTm_eta @eTy_eta))) (H hF) ?_
      refine Run ((ai (ai @eSch_eta @eTm_eta) (ai @eTy_eta (ai @gF @gB)))) ?_; with_reducible repeat' (first | exact True.intro | refine Lf.mk ?_ ?_ | intro hb)
      cases b with
      | false =>
        refine Run ((ai (ai @eSch_eta @eTm_eta) (ai @eTy_eta (ai @gF @gB)))) ?_; with_reducible repeat' (first | exact True.intro | refine Lf.mk ?_ ?_ | intro hb)
        first | refine ⟨rfl, rfl, ?_⟩ | refine ⟨rfl, ?_⟩
        refine Run ((ai (ai @eSch_eta @eTm_eta) (ai @eTy_eta (ai @gF @gB)))) ?_; with_reducible repeat' (first | exact True.intro | refine Lf.mk ?_ ?_ | intro hb)
      | true =>
        refine Run ((ai (ai @eSch_eta @eTm_eta) (ai @eTy_eta (ai @gF @gB)))) ?_; with_reducible repeat' (first | exact True.intro | refine Lf.mk ?_ ?_ | intro hb)
        first | refine ⟨rfl, rfl, ?_⟩ | refine ⟨rfl, ?_⟩
        refine Run ((ai (ai @eSch_eta @eTm_eta) (ai @eTy_eta (ai @gF @gB)))) ?_; with_reducible repeat' (first | exact True.intro | refine Lf.mk ?_ ?_ | intro hb)
        refine Cal (@eTy_eta) (specEqTy_ok t w ht hw) ?_
        refine Run ((ai (ai @eSch_eta @eTm_eta) (ai @eTy_eta (ai @gF @gB)))) ?_; with_reducible repeat' (first | exact True.intro | refine Lf.mk ?_ ?_ | intro hb)
    · have gB := eq_false hB
      refine Run ((ai (ai @eSch_eta @eTm_eta) (ai @eTy_eta (ai @gF @gB)))) ?_; with_reducible repeat' (first | exact True.intro | refine Lf.mk ?_ ?_ | intro hb)
  · have gF := eq_false hF
    refine Run ((ai (ai @eSch_eta @eTm_eta) (ai @eTy_eta @gF))) ?_; with_reducible repeat' (first | exact True.intro | refine Lf.mk ?_ ?_ | intro hb)

theorem sHas_ok (s : List Decl) (hs : okSch (2^20) s) (hrow : ∀ d ∈ s, TyOk d.row) (ctx : List Decl) (hc : CtxOk ctx) (e : Tm) (he : okTm (2^20) e) (hl : ctx.length + zTm e ≤ 2^20 + 2) : FnP Tryz.prog 29 [agT (eSch s), slT eDecl ctx, agT (eTm e), agT (eTy tBool)] (bT (hasB s ctx e 2)) := by
  rw [← hasB_eq3]
  exact sHas_of s ctx e he (by omega) tBool bnd_bool.1 _ tyO_ok _ fun hF => sof_all s hs hrow (msz e) e (Nat.le_refl _) hF he ctx hc hl
theorem implHas_ok (s : List Decl) (hs : okSch (2^20) s) (hrow : ∀ d ∈ s, TyOk d.row) (ctx : List Decl) (hc : CtxOk ctx) (e : Tm) (he : okTm (2^20) e) (hl : ctx.length + zTm e ≤ 2^30) (k : Int) (r : List IV) : FnP Tryz.prog 36 [agT (eSch s), slT eDecl ctx, .c (.im (.pt (eTm e ++ r))), iT k] (bT (hasB s ctx e k)) := by
  by_cases hF : TmF e
  · obtain ⟨t', ht', hte⟩ := of_all s hs hrow (msz e) e (Nat.le_refl _) hF he ctx hc (by have := msz_le e; omega)
    rw [← hasB_eq2 s ctx e t' _ rfl (fun u hu => hte u hu) k]
    exact hasBase_of s ctx e he (by omega) k r t' _ fun _ => ht' r
  · have h2 := hasBase_of s ctx e he (by omega) k r ty0 false fun h => absurd h hF
    rw [decide_eq_false hF, Bool.false_and] at h2
    rwa [hasB_no fun h => hF h.1]
end Go.VC.T
/- Terms without questions: positive queries. -/
namespace Go.VC
open Go
mutual
/-- Does a term ask about a bag? -/
def askT : Tm → Bool
  | .mk k _ _ _ _ a => askL a || (decide (k = 15) || decide (k = 16))
def askL : List Tm → Bool
  | [] => false
  | t :: r => askT t || askL r
end
theorem askL_any : ∀ (l : List Tm), askL l = l.any askT
  | [] => by rw [askL]; rfl
  | t :: r => by rw [askL, askL_any r, List.any_cons]
theorem askT_eta (t : Tm) : askT t = (t.args.any askT || (decide (t.kind = 15) || decide (t.kind = 16))) := by
  cases t with
  | mk k s n t l a => rw [askT, askL_any]; rfl
end Go.VC
namespace Go.VC.T
open Go Go.VC Go.Proofs Go.VC.F
def fc26A20 := (ai (ai (ai (ai sz3 (ai ag3 zv3)) (ai (ai un3 sz4) (ai ag4 zv4))) (ai (ai un4 (ai sz44 ag44)) (ai (ai zv44 sb44) (ai un44 el44)))) (ai (ai (ai ap44 (ai sz46 ag46)) (ai (ai zv46 fl46_0) (ai fl46_1 fl46_2))) (ai (ai (ai fl46_3 fl46_4) (ai fl46_5 pl46)) (ai (ai okf26 sz9) (ai sz43 sz25)))))
theorem specAsks_of (t : Tm) (ht : okTm (2^20) t) (H : ∀ u ∈ t.args, FnP Tryz.prog 26 [agT (eTm u)] (bT (askT u))) : FnS Tryz.prog 26 [] [agT (eTm t)] [] (bT (askT t)) := by
  refine FnS.go [0, 1, 2, 3, 8, 16] [] Tryz.func26 rfl (fun kt kz => ?_)
  have fcx := fc26A20
  simp only [Tryz.f26]
  have ho := okTm_iff.1 ht
  have hl := ho.2.2.2.2.2.1
  refine Run ((ai @eTm_eta @eTy_eta)) ?_; with_reducible repeat' (first | exact True.intro | refine Lf.mk ?_ ?_ | intro hb)
  refine Trn (α := Nat) [2, 3, 4, 5, 6, 7, 8, 9, 10, 11, 12, 13, 14, 15, 16] (fun i => [(3, iT i)]) (fun i => [(2, .box 46 ((eTm t).map .im))]) (fun i => i ≤ t.args.length ∧ (t.args.take i).any askT = false) (fun i => t.args.length - i) (0) (⟨Nat.zero_le _, rfl⟩) ((ai @eTm_eta @eTy_eta)) ?_; intro lx hI; obtain i := lx; (try simp only [List.nil_append, List.cons_append] at hI ⊢)
  by_cases hlt : lx < t.args.length
  · refine Run ((ai @eTm_eta (ai @eTy_eta @hlt))) ?_; with_reducible repeat' (first | exact True.intro | refine Lf.mk ?_ ?_ | intro hb)
    refine Cal ((ai @eTm_eta @eTy_eta)) (H _ (List.getElem_mem hlt)) ?_
    refine Run ((ai @eTm_eta @eTy_eta)) ?_; with_reducible repeat' (first | exact True.intro | refine Lf.mk ?_ ?_ | intro hb)
    · rw [askT_eta, any_at hlt hb]; rfl
    · exact Nxt ((ai @eTm_eta @eTy_eta)) (lx + 1) (⟨by omega, any_take hlt hI.2 hb⟩) (by first | omega | (simp; omega))
  · have ha := any_all (by omega) hI.2
    by_cases h15 : t.kind = 15
    · refine Run ((ai (ai @eTm_eta @eTy_eta) (ai @hlt @h15))) ?_; with_reducible repeat' (first | exact True.intro | refine Lf.mk ?_ ?_ | intro hb)
      rw [askT_eta, h15]; simp
    · refine Run ((ai (ai @eTm_eta @eTy_eta) (ai @hlt @h15))) ?_; with_reducible repeat' (first | exact True.intro | refine Lf.mk ?_ ?_ | intro hb)
      rw [askT_eta, ha]; simp [h15]

theorem specAsks_ok (t : Tm) (ht : okTm (2^20) t) : FnP Tryz.prog 26 [agT (eTm t)] (bT (askT t)) := specAsks_of t ht fun u hu => specAsks_ok u ((okTm_iff.1 ht).2.2.2.2.2.2 u hu)
termination_by SizeOf.sizeOf t
decreasing_by exact Tm.mem hu
def fc37A20 := (ai (ai (ai (ai (ai sz3 ag3) (ai zv3 un3)) (ai (ai sz4 ag4) (ai zv4 un4))) (ai (ai (ai sz44 ag44) (ai zv44 sb44)) (ai (ai un44 el44) (ai ap44 sz46)))) (ai (ai (ai (ai ag46 zv46) (ai fl46_0 fl46_1)) (ai (ai fl46_2 fl46_3) (ai fl46_4 fl46_5))) (ai (ai (ai pl46 sz77) (ai ag77 zv77)) (ai (ai un77 okf37) (ai sz9 (ai sz43 sz25))))))
theorem implPos_of (t : Tm) (ht : okTm (2^20) t) (H : ∀ u ∈ t.args, ∀ r : List IV, FnP Tryz.prog 37 [.c (.im (.pt (eTm u ++ r)))] (bT (!askT u))) (r : List IV) : FnS Tryz.prog 37 [] [.c (.im (.pt (eTm t ++ r)))] [] (bT (!askT t)) := by
  refine FnS.go [0, 2, 3, 15, 20, 21, 22, 31] [] Tryz.func37 rfl (fun kt kz => ?_)
  have fcx := fc37A20
  simp only [Tryz.f37]
  have ho := okTm_iff.1 ht
  have hl := ho.2.2.2.2.2.1
  by_cases h15 : t.kind = 15
  · refine Run ((ai @eTm_eta (ai @eTy_eta @h15))) ?_; with_reducible repeat' (first | exact True.intro | refine Lf.mk ?_ ?_ | intro hb)
    rw [askT_eta, h15]; simp
  · by_cases h16 : t.kind = 16
    · refine Run ((ai (ai @eTm_eta @eTy_eta) (ai @h15 @h16))) ?_; with_reducible repeat' (first | exact True.intro | refine Lf.mk ?_ ?_ | intro hb)
      rw [askT_eta, h16]; simp
    · refine Run ((ai (ai @eTm_eta @eTy_eta) (ai @h15 @h16))) ?_; with_reducible repeat' (first | exact True.intro | refine Lf.mk ?_ ?_ | intro hb)
      refine Trn (α := Nat) [2, 3, 21, 22, 23, 24, 25, 26, 27, 28, 29, 30, 31, 32] (fun i => [(21, iT i)]) (fun i => []) (fun i => i ≤ t.args.length ∧ (t.args.take i).any askT = false) (fun i => t.args.length - i) (0) (⟨Nat.zero_le _, rfl⟩) ((ai @eTm_eta @eTy_eta)) ?_; intro lx hI; obtain i := lx; (try simp only [List.nil_append, List.cons_append] at hI ⊢)
      by_cases hlt : lx < t.args.length
      · refine Run ((ai @eTm_eta (ai @eTy_eta @hlt))) ?_; with_reducible repeat' (first | exact True.intro | refine Lf.mk ?_ ?_ | intro hb)
        refine Cal ((ai @eTm_eta @eTy_eta)) (H _ (List.getElem_mem hlt) _) ?_
        refine Run ((ai @eTm_eta @eTy_eta)) ?_; with_reducible repeat' (first | exact True.intro | refine Lf.mk ?_ ?_ | intro hb)
        · rw [askT_eta, any_at hlt (by simpa using hb)]; rfl
        · exact Nxt ((ai @eTm_eta @eTy_eta)) (lx + 1) (⟨by omega, any_take hlt hI.2 (by simpa using hb)⟩) (by first | omega | (simp; omega))
      · have ha := any_all (by omega) hI.2
        refine Run ((ai @eTm_eta (ai @eTy_eta @hlt))) ?_; with_reducible repeat' (first | exact True.intro | refine Lf.mk ?_ ?_ | intro hb)
        rw [askT_eta, ha]; simp [h15, h16]

theorem implPos_ok (t : Tm) (ht : okTm (2^20) t) (r : List IV) : FnP Tryz.prog 37 [.c (.im (.pt (eTm t ++ r)))] (bT (!askT t)) := implPos_of t ht (fun u hu r => implPos_ok u ((okTm_iff.1 ht).2.2.2.2.2.2 u hu) r) r
termination_by SizeOf.sizeOf t
decreasing_by exact Tm.mem hu
end Go.VC.T
/- Views: what is asked of them; the program's side. -/
namespace Go.VC
open Go
def vRow (row : Ty) : List Decl := [⟨⟨#[114]⟩, row⟩]
def ViewIn (s : List Decl) (v : Vw) (row : Ty) : Prop := hasB s (vRow row) v.cond 2 = true ∧ askT v.cond = false ∧ v.cols.length ≠ 0 ∧ AscS v.cols ∧ (v.cols.any fun c => !(row.labels.any fun x => decide (x = c))) = false ∧ (v.cols.any fun x => decide (x = v.key)) = true ∧ ((fieldT row v.key).getD ty0).kind = 1
def ViewOk (s : List Decl) (v : Vw) : Prop := SchOk s ∧ ∃ row, rowT s v.table = some row ∧ ViewIn s v row
noncomputable instance (s : List Decl) (v : Vw) : Decidable (ViewOk s v) := Classical.propDecidable _
noncomputable instance (s : List Decl) (v : Vw) (row : Ty) : Decidable (ViewIn s v row) := Classical.propDecidable _
theorem view_a {s : List Decl} {v : Vw} (h : rowT s v.table = none) : decide (ViewOk s v) = false := decide_eq_false fun ⟨_, r, hr, _⟩ => by rw [h] at hr; cases hr
theorem view_b {s : List Decl} {v : Vw} (h : ¬ SchOk s) : decide (ViewOk s v) = false := decide_eq_false fun ⟨h1, _⟩ => h h1
theorem view_c {s : List Decl} {v : Vw} {row : Ty} (h : SchOk s) (hr : rowT s v.table = some row) : decide (ViewOk s v) = decide (ViewIn s v row) := decide_eq_decide.2 ⟨fun ⟨_, r, h1, h2⟩ => by rw [hr] at h1; cases h1; exact h2, fun h2 => ⟨h, row, hr, h2⟩⟩
theorem vRow_len (row : Ty) : (vRow row).length = 1 := rfl
theorem vRow_eta (row : Ty) : (vRow row).flatMap eDecl = .sc (.string ⟨#[114]⟩) :: eTy row := by
  show [_].flatMap eDecl = _
  rw [flat_one]; rfl
theorem sch_row {s : List Decl} (h : SchOk s) : ∀ d ∈ s, TyOk d.row := fun d hd => (h.1 d hd).2.1
theorem row_ok {s : List Decl} {name : ByteArray} {row : Ty} (h : SchOk s) (hr : rowT s name = some row) : RowOk' row := by
  obtain ⟨d, hd, rfl⟩ := rowT_mem hr
  exact (h.1 d hd).2
theorem vctx_ok {row : Ty} (h : TyOk row) : CtxOk (vRow row) := fun d hd => by
  obtain rfl := List.mem_singleton.1 hd; exact h
/-- The key's place in a row. -/
theorem key_at {row : Ty} {cols : List ByteArray} {key : ByteArray} (h : RowOk' row) (h1 : (cols.any fun c => !(row.labels.any fun x => decide (x = c))) = false) (h2 : (cols.any fun x => decide (x = key)) = true) :
    ∃ j : Nat, idxI (fun x => decide (x = key)) row.labels = j ∧ ∃ h : j < row.args.length, fieldT row key = some row.args[j] := by
  obtain ⟨c, hc, he⟩ := List.any_eq_true.1 h2
  obtain rfl := of_decide_eq_true he
  have h3 := List.any_eq_false.1 h1 c hc
  have h4 : (row.labels.any fun x => decide (x = c)) = true := by
    cases h : row.labels.any fun x => decide (x = c) with
    | true => rfl
    | false => rw [h] at h3; exact absurd rfl h3
  refine fieldT_at ⟨h.1, h.2.1, ?_⟩
  have := idx_ge (p := fun x => decide (x = c)) (l := row.labels)
  rw [h4] at this
  exact of_decide_eq_true this
end Go.VC
namespace Go.VC.T
open Go Go.VC Go.Proofs Go.VC.F
def fc40A108 := (ai (ai (ai (ai sz4 (ai ag4 zv4)) (ai un4 (ai sz9 ag9))) (ai (ai zv9 (ai un9 sz25)) (ai ag25 (ai zv25 sb25)))) (ai (ai (ai un25 (ai el25 ap25)) (ai sz43 (ai ag43 zv43))) (ai (ai fl43_0 (ai fl43_1 fl43_2)) (ai (ai pl43 okf41) (ai sz3 sz41)))))
theorem implView1_ok (row : Ty) (hl : row.labels.length ≤ 2^48) (c : ByteArray) : FnS Tryz.prog 40 [] [sT c, .c (.im (.pt (eTy row)))] [] (bT (!(row.labels.any fun x => decide (x = c)))) := by
  refine FnS.go [0, 1, 3] [] Tryz.func40 rfl (fun kt kz => ?_)
  have fcx := fc40A108
  simp only [Tryz.f40]
  refine Run (@eTy_eta) ?_; with_reducible repeat' (first | exact True.intro | refine Lf.mk ?_ ?_ | intro hb)
  refine Cal (cast_succ) (slHasS_ok row.labels c hl) ?_
  refine Run (@eTy_eta) ?_; with_reducible repeat' (first | exact True.intro | refine Lf.mk ?_ ?_ | intro hb)
def fc10A108 := (ai (ai (ai (ai (ai (ai sz3 ag3) (ai zv3 un3)) (ai (ai sz4 ag4) (ai zv4 (ai un4 sz9)))) (ai (ai (ai ag9 zv9) (ai un9 (ai sz25 ag25))) (ai (ai zv25 sb25) (ai un25 (ai el25 ap25))))) (ai (ai (ai (ai sz39 ag39) (ai zv39 fl39_0)) (ai (ai pl39 sz41) (ai ag41 (ai zv41 sb41)))) (ai (ai (ai un41 el41) (ai ap41 (ai sz43 ag43))) (ai (ai zv43 fl43_0) (ai fl43_1 (ai fl43_2 pl43)))))) (ai (ai (ai (ai (ai sz48 ag48) (ai zv48 fl48_0)) (ai (ai fl48_1 fl48_2) (ai fl48_3 (ai pl48 sz69)))) (ai (ai (ai ag69 zv69) (ai fl69_0 (ai fl69_1 pl69))) (ai (ai sz70 ag70) (ai zv70 (ai sb70 un70))))) (ai (ai (ai (ai el70 ap70) (ai sz77 (ai ag77 zv77))) (ai (ai un77 sz81) (ai ag81 (ai zv81 okf34)))) (ai (ai (ai okf35 okf36) (ai okf37 (ai okf38 okf39))) (ai (ai okf40 okf41) (ai okf42 (ai sz37 sz46)))))))
theorem implView_a (s : List Decl) (hs : okSch (2^20) s) (hz : zSch s ≤ 2^20) (v : Vw) (hr : rowT s v.table = none) : FnS Tryz.prog 10 [] [agT (eSch s), agT (eVw v)] [] (bT false) := by
  refine FnS.go [0, 1, 2, 3, 4, 5, 6, 34, 50] [] Tryz.func10 rfl (fun kt kz => ?_)
  have fcx := fc10A108
  simp only [Tryz.f10]
  have hh := implRowT_ok s hs v.table
  rw [hr] at hh
  have hh : FnP Tryz.prog 34 [agT (eSch s), sT v.table] (.tp [agT (eTy ty0), bT false]) := hh
  refine Run ((ai @eSch_eta (ai @eVw_eta @eTy_eta))) ?_; with_reducible repeat' (first | exact True.intro | refine Lf.mk ?_ ?_ | intro hb)
  refine CalI ((ai @eSch_eta @eTy_eta)) (hh) ?_
  refine Run ((ai @eSch_eta (ai @eVw_eta @eTy_eta))) ?_; with_reducible repeat' (first | exact True.intro | refine Lf.mk ?_ ?_ | intro hb)
  refine ⟨rfl, rfl, ?_⟩
  refine Run ((ai @eSch_eta (ai @eVw_eta @eTy_eta))) ?_; with_reducible repeat' (first | exact True.intro | refine Lf.mk ?_ ?_ | intro hb)
  refine Cal ((ai @eSch_eta @eTy_eta)) (implSch_ok s hs hz) ?_
  by_cases hS : SchOk s
  · have gS := eq_true hS
    refine Run ((ai (ai @eSch_eta @eVw_eta) (ai @eTy_eta @gS))) ?_; with_reducible repeat' (first | exact True.intro | refine Lf.mk ?_ ?_ | intro hb)
  · have gS := eq_false hS
    refine Run ((ai (ai @eSch_eta @eVw_eta) (ai @eTy_eta @gS))) ?_; with_reducible repeat' (first | exact True.intro | refine Lf.mk ?_ ?_ | intro hb)
theorem implView_b (s : List Decl) (hs : okSch (2^20) s) (hz : zSch s ≤ 2^20) (v : Vw) (row : Ty) (hr : rowT s v.table = some row) (hS : ¬ SchOk s) : FnS Tryz.prog 10 [] [agT (eSch s), agT (eVw v)] [] (bT false) := by
  refine FnS.go [0, 1, 2, 3, 4, 5, 6, 34, 50] [] Tryz.func10 rfl (fun kt kz => ?_)
  have fcx := fc10A108
  simp only [Tryz.f10]
  have hh := implRowT_ok s hs v.table
  rw [hr] at hh
  have hh : FnP Tryz.prog 34 [agT (eSch s), sT v.table] (.tp [agT (eTy row), bT true]) := hh
  have gS := eq_false hS
  refine Run ((ai @eSch_eta (ai @eVw_eta @eTy_eta))) ?_; with_reducible repeat' (first | exact True.intro | refine Lf.mk ?_ ?_ | intro hb)
  refine CalI ((ai @eSch_eta @eTy_eta)) (hh) ?_
  refine Run ((ai @eSch_eta (ai @eVw_eta @eTy_eta))) ?_; with_reducible repeat' (first | exact True.intro | refine Lf.mk ?_ ?_ | intro hb)
  refine ⟨rfl, rfl, ?_⟩
  refine Run ((ai @eSch_eta (ai @eVw_eta @eTy_eta))) ?_; with_reducible repeat' (first | exact True.intro | refine Lf.mk ?_ ?_ | intro hb)
  refine Cal ((ai @eSch_eta @eTy_eta)) (implSch_ok s hs hz) ?_
  refine Run ((ai (ai @eSch_eta @eVw_eta) (ai @eTy_eta @gS))) ?_; with_reducible repeat' (first | exact True.intro | refine Lf.mk ?_ ?_ | intro hb)
theorem implView_c (s : List Decl) (hs : okSch (2^20) s) (hz : zSch s ≤ 2^20) (v : Vw) (hv : okVw (2^20) v) (hzv : zVw v ≤ 2^20) (row : Ty) (hr : rowT s v.table = some row) (hS : SchOk s) : FnS Tryz.prog 10 [] [agT (eSch s), agT (eVw v)] [] (bT (decide (ViewIn s v row))) := by
  refine FnS.go [0, 1, 2, 3, 4, 5, 6, 34, 50] [] Tryz.func10 rfl (fun kt kz => ?_)
  have fcx := fc10A108
  simp only [Tryz.f10]
  have hh := implRowT_ok s hs v.table
  rw [hr] at hh
  have hh : FnP Tryz.prog 34 [agT (eSch s), sT v.table] (.tp [agT (eTy row), bT true]) := hh
  have gS := eq_true hS
  have hR := row_ok hS hr
  obtain ⟨hvt, hvc, hvl, hvk⟩ := okVw_iff.1 hv
  have hzc : zTm v.cond ≤ 2^20 := by have := zVw_eta v; omega
  have hno : ¬ ViewIn s v row → decide (ViewIn s v row) = false := decide_eq_false
  have HB := implHas_ok s hs (sch_row hS) (vRow row) (vctx_ok hR.1) v.cond hvc (by show 1 + _ ≤ _; omega) 2
  have hl20 : v.cols.length ≤ 2^20 := hvl.1
  have hrl : row.labels.length ≤ 2^48 := by have := hR.1.ok; have := (okTy_iff.1 this).2.1.1; omega
  refine Run ((ai @eSch_eta (ai @eVw_eta @eTy_eta))) ?_; with_reducible repeat' (first | exact True.intro | refine Lf.mk ?_ ?_ | intro hb)
  refine CalI ((ai @eSch_eta @eTy_eta)) (hh) ?_
  refine Run ((ai @eSch_eta (ai @eVw_eta @eTy_eta))) ?_; with_reducible repeat' (first | exact True.intro | refine Lf.mk ?_ ?_ | intro hb)
  refine ⟨rfl, rfl, ?_⟩
  refine Run ((ai @eSch_eta (ai @eVw_eta @eTy_eta))) ?_; with_reducible repeat' (first | exact True.intro | refine Lf.mk ?_ ?_ | intro hb)
  refine Cal ((ai @eSch_eta @eTy_eta)) (implSch_ok s hs hz) ?_
  refine Run ((ai (ai @eSch_eta @eVw_eta) (ai @eTy_eta @gS))) ?_; with_reducible repeat' (first | exact True.intro | refine Lf.mk ?_ ?_ | intro hb)
  refine Cal ((ai (ai @eSch_eta @eTm_eta) (ai @eTy_eta (ai @vRow_len @vRow_eta)))) (HB [slI eS v.cols, .sc (.string v.key)]) ?_
  cases hB : hasB s (vRow row) v.cond 2 with
  | false =>
    have e := hno fun h => by have h' := h.1; rw [hB] at h'; cases h'
    refine Run ((ai (ai @eSch_eta @eVw_eta) (ai @eTy_eta @e))) ?_; with_reducible repeat' (first | exact True.intro | refine Lf.mk ?_ ?_ | intro hb)
  | true =>
    refine Run ((ai (ai @eSch_eta @eVw_eta) (ai @eTm_eta @eTy_eta))) ?_; with_reducible repeat' (first | exact True.intro | refine Lf.mk ?_ ?_ | intro hb)
    refine Cal ((ai @eTm_eta @eTy_eta)) (implPos_ok v.cond hvc [slI eS v.cols, .sc (.string v.key)]) ?_
    cases hA : askT v.cond with
    | true =>
      have e := hno fun h => by have h' := h.2.1; rw [hA] at h'; cases h'
      refine Run ((ai (ai @eSch_eta @eVw_eta) (ai @eTy_eta @e))) ?_; with_reducible repeat' (first | exact True.intro | refine Lf.mk ?_ ?_ | intro hb)
    | false =>
      by_cases h0 : v.cols.length = 0
      · have g0 : ((v.cols.length : Int) = 0) = True := eq_true (by omega)
        have e := hno fun h => h.2.2.1 h0
        refine Run ((ai (ai @eSch_eta @eVw_eta) (ai @eTy_eta (ai @g0 @e)))) ?_; with_reducible repeat' (first | exact True.intro | refine Lf.mk ?_ ?_ | intro hb)
      · have g0 : ((v.cols.length : Int) = 0) = False := eq_false (by omega)
        refine Run ((ai (ai @eSch_eta @eVw_eta) (ai @eTy_eta @g0))) ?_; with_reducible repeat' (first | exact True.intro | refine Lf.mk ?_ ?_ | intro hb)
        refine Cal (@eTy_eta) (implAsc_ok v.cols (by omega)) ?_
        by_cases hC : AscS v.cols
        · have gC := eq_true hC
          refine Run ((ai (ai @eSch_eta @eVw_eta) (ai @eTy_eta @gC))) ?_; with_reducible repeat' (first | exact True.intro | refine Lf.mk ?_ ?_ | intro hb)
          refine Cal (@eTy_eta) (slHasFS_ok 40 (by decide +kernel) (.pt (eTy row)) (fun c => !(row.labels.any fun x => decide (x = c))) v.cols (by omega) (fun c _ => implView1_ok row hrl c)) ?_
          cases hM : v.cols.any fun c => !(row.labels.any fun x => decide (x = c)) with
          | true =>
            have e := hno fun h => by have h' := h.2.2.2.2.1; rw [hM] at h'; cases h'
            refine Run ((ai (ai @eSch_eta @eVw_eta) (ai @eTy_eta (ai @hM @e)))) ?_; with_reducible repeat' (first | exact True.intro | refine Lf.mk ?_ ?_ | intro hb)
          | false =>
            refine Run ((ai (ai @eSch_eta @eVw_eta) (ai @eTy_eta @hM))) ?_; with_reducible repeat' (first | exact True.intro | refine Lf.mk ?_ ?_ | intro hb)
            cases hK : v.cols.any fun x => decide (x = v.key) with
            | false =>
              have e := hno fun h => by have h' := h.2.2.2.2.2.1; rw [hK] at h'; cases h'
              refine Cal (@eTy_eta) (slHasS_ok v.cols v.key (by omega)) ?_
              refine Run ((ai (ai @eSch_eta @eVw_eta) (ai @eTy_eta (ai @hK @e)))) ?_; with_reducible repeat' (first | exact True.intro | refine Lf.mk ?_ ?_ | intro hb)
            | true =>
              obtain ⟨j, ej, hj, ef⟩ := key_at hR hM hK
              have e : decide (row.args[j].kind = 1) = decide (ViewIn s v row) := decide_eq_decide.2 ⟨fun h => ⟨hB, hA, h0, hC, hM, hK, by rw [ef]; exact h⟩, fun h => by have := h.2.2.2.2.2.2; rw [ef] at this; exact this⟩
              refine Cal (@eTy_eta) (slHasS_ok v.cols v.key (by omega)) ?_
              refine Run ((ai (ai @eSch_eta @eVw_eta) (ai @eTy_eta @hK))) ?_; with_reducible repeat' (first | exact True.intro | refine Lf.mk ?_ ?_ | intro hb)
              refine Cal (@eTy_eta) (slIdxS_ok row.labels v.key hrl) ?_
              refine Run ((ai (ai @eSch_eta (ai @eVw_eta @eTy_eta)) (ai @ej (ai @hj @e)))) ?_; with_reducible repeat' (first | exact True.intro | refine Lf.mk ?_ ?_ | intro hb)
        · have gC := eq_false hC
          have e := hno fun h => hC h.2.2.2.1
          refine Run ((ai (ai @eSch_eta @eVw_eta) (ai @eTy_eta (ai @gC @e)))) ?_; with_reducible repeat' (first | exact True.intro | refine Lf.mk ?_ ?_ | intro hb)

theorem implView_ok (s : List Decl) (hs : okSch (2^20) s) (hz : zSch s ≤ 2^20) (v : Vw) (hv : okVw (2^20) v) (hzv : zVw v ≤ 2^20) : FnP Tryz.prog 10 [agT (eSch s), agT (eVw v)] (bT (decide (ViewOk s v))) := by
  cases hr : rowT s v.table with
  | none => rw [view_a hr]; exact implView_a s hs hz v hr
  | some row =>
    by_cases hS : SchOk s
    · rw [view_c hS hr]; exact implView_c s hs hz v hv hzv row hr hS
    · rw [view_b hS]; exact implView_b s hs hz v row hr hS
end Go.VC.T
/- Views: the reference's side. -/
namespace Go.VC.T
open Go Go.VC Go.Proofs Go.VC.F
def fc7A109 := (ai (ai (ai (ai (ai (ai sz3 ag3) (ai zv3 un3)) (ai (ai sz4 ag4) (ai zv4 (ai un4 sz9)))) (ai (ai (ai ag9 zv9) (ai un9 sz25)) (ai (ai ag25 zv25) (ai sb25 (ai un25 el25))))) (ai (ai (ai (ai ap25 sz39) (ai ag39 zv39)) (ai (ai fl39_0 pl39) (ai sz43 (ai ag43 zv43)))) (ai (ai (ai fl43_0 fl43_1) (ai fl43_2 pl43)) (ai (ai sz46 ag46) (ai zv46 (ai fl46_0 fl46_1)))))) (ai (ai (ai (ai (ai fl46_2 fl46_3) (ai fl46_4 fl46_5)) (ai (ai pl46 sz48) (ai ag48 (ai zv48 fl48_0)))) (ai (ai (ai fl48_1 fl48_2) (ai fl48_3 pl48)) (ai (ai sz69 ag69) (ai zv69 (ai fl69_0 fl69_1))))) (ai (ai (ai (ai pl69 sz70) (ai ag70 zv70)) (ai (ai sb70 un70) (ai el70 (ai ap70 okf23)))) (ai (ai (ai okf24 okf25) (ai okf26 (ai okf27 okf28))) (ai (ai okf29 okf30) (ai sz37 (ai sz41 sz44)))))))
theorem specView_a (s : List Decl) (hs : okSch (2^20) s) (v : Vw) (hr : rowT s v.table = none) : FnS Tryz.prog 7 [] [agT (eSch s), agT (eVw v)] [] (bT false) := by
  refine FnS.go [0, 1, 2, 3, 4, 5, 6, 7, 8, 10, 41, 46, 57] [] Tryz.func7 rfl (fun kt kz => ?_)
  have fcx := fc7A109
  simp only [Tryz.f7]
  have hh := specRowT_ok s hs v.table
  rw [hr] at hh
  have hh : FnP Tryz.prog 23 [agT (eSch s), sT v.table] (.tp [agT (eTy ty0), bT false]) := hh
  refine Run ((ai @eSch_eta (ai @eVw_eta @eTy_eta))) ?_; with_reducible repeat' (first | exact True.intro | refine Lf.mk ?_ ?_ | intro hb)
  refine CalI ((ai @eSch_eta @eTy_eta)) (hh) ?_
  refine Run ((ai @eSch_eta (ai @eVw_eta @eTy_eta))) ?_; with_reducible repeat' (first | exact True.intro | refine Lf.mk ?_ ?_ | intro hb)
  refine ⟨rfl, rfl, ?_⟩
  refine Run ((ai @eSch_eta (ai @eVw_eta @eTy_eta))) ?_; with_reducible repeat' (first | exact True.intro | refine Lf.mk ?_ ?_ | intro hb)
theorem specView_b (s : List Decl) (hs : okSch (2^20) s) (hz : zSch s ≤ 2^20) (v : Vw) (row : Ty) (hr : rowT s v.table = some row) (hS : ¬ SchOk s) : FnS Tryz.prog 7 [] [agT (eSch s), agT (eVw v)] [] (bT false) := by
  refine FnS.go [0, 1, 2, 3, 4, 5, 6, 7, 8, 10, 41, 46, 57] [] Tryz.func7 rfl (fun kt kz => ?_)
  have fcx := fc7A109
  simp only [Tryz.f7]
  have hh := specRowT_ok s hs v.table
  rw [hr] at hh
  have hh : FnP Tryz.prog 23 [agT (eSch s), sT v.table] (.tp [agT (eTy row), bT true]) := hh
  have gS := eq_false hS
  refine Run ((ai @eSch_eta (ai @eVw_eta @eTy_eta))) ?_; with_reducible repeat' (first | exact True.intro | refine Lf.mk ?_ ?_ | intro hb)
  refine CalI ((ai @eSch_eta @eTy_eta)) (hh) ?_
  refine Run ((ai @eSch_eta (ai @eVw_eta @eTy_eta))) ?_; with_reducible repeat' (first | exact True.intro | refine Lf.mk ?_ ?_ | intro hb)
  refine ⟨rfl, rfl, ?_⟩
  refine Run ((ai @eSch_eta (ai @eVw_eta @eTy_eta))) ?_; with_reducible repeat' (first | exact True.intro | refine Lf.mk ?_ ?_ | intro hb)
  refine Cal ((ai @eSch_eta @eTy_eta)) (specSch_ok s hs hz) ?_
  refine Run ((ai (ai @eSch_eta @eVw_eta) (ai @eTy_eta @gS))) ?_; with_reducible repeat' (first | exact True.intro | refine Lf.mk ?_ ?_ | intro hb)
theorem specView_c (s : List Decl) (hs : okSch (2^20) s) (hz : zSch s ≤ 2^20) (v : Vw) (hv : okVw (2^20) v) (hzv : zVw v ≤ 2^20) (row : Ty) (hr : rowT s v.table = some row) (hS : SchOk s) : FnS Tryz.prog 7 [] [agT (eSch s), agT (eVw v)] [] (bT (decide (ViewIn s v row))) := by
  refine FnS.go [0, 1, 2, 3, 4, 5, 6, 7, 8, 10, 41, 46, 57] [] Tryz.func7 rfl (fun kt kz => ?_)
  have fcx := fc7A109
  simp only [Tryz.f7]
  have hh := specRowT_ok s hs v.table
  rw [hr] at hh
  have hh : FnP Tryz.prog 23 [agT (eSch s), sT v.table] (.tp [agT (eTy row), bT true]) := hh
  have gS := eq_true hS
  have hR := row_ok hS hr
  obtain ⟨hvt, hvc, hvl, hvk⟩ := okVw_iff.1 hv
  have hzc : zTm v.cond ≤ 2^20 := by have := zVw_eta v; omega
  have hno : ¬ ViewIn s v row → decide (ViewIn s v row) = false := decide_eq_false
  have HB := sHas_ok s hs (sch_row hS) (vRow row) (vctx_ok hR.1) v.cond hvc (by show 1 + _ ≤ _; omega)
  have hl20 : v.cols.length ≤ 2^20 := hvl.1
  have hrl : row.labels.length ≤ 2^48 := by have := hR.1.ok; have := (okTy_iff.1 this).2.1.1; omega
  have HF := specField_ok row hR.1.ok (by have := hR.1.z; omega) v.key
  refine Run ((ai @eSch_eta (ai @eVw_eta @eTy_eta))) ?_; with_reducible repeat' (first | exact True.intro | refine Lf.mk ?_ ?_ | intro hb)
  refine CalI ((ai @eSch_eta @eTy_eta)) (hh) ?_
  refine Run ((ai @eSch_eta (ai @eVw_eta @eTy_eta))) ?_; with_reducible repeat' (first | exact True.intro | refine Lf.mk ?_ ?_ | intro hb)
  refine ⟨rfl, rfl, ?_⟩
  refine Run ((ai @eSch_eta (ai @eVw_eta @eTy_eta))) ?_; with_reducible repeat' (first | exact True.intro | refine Lf.mk ?_ ?_ | intro hb)
  refine Cal ((ai @eSch_eta @eTy_eta)) (specSch_ok s hs hz) ?_
  by_cases h0 : v.cols.length = 0
  · have g0 : ((v.cols.length : Int) = 0) = True := eq_true (by omega)
    have e := hno fun h => h.2.2.1 h0
    refine Run ((ai (ai @eSch_eta (ai @eVw_eta @eTy_eta)) (ai @gS (ai @g0 @e)))) ?_; with_reducible repeat' (first | exact True.intro | refine Lf.mk ?_ ?_ | intro hb)
  · have g0 : ((v.cols.length : Int) = 0) = False := eq_false (by omega)
    refine Run ((ai (ai @eSch_eta @eVw_eta) (ai @eTy_eta (ai @gS @g0)))) ?_; with_reducible repeat' (first | exact True.intro | refine Lf.mk ?_ ?_ | intro hb)
    refine Cal (@eTy_eta) (specAsc_ok v.cols (by omega)) ?_
    by_cases hC : AscS v.cols
    · have gC := eq_true hC
      refine Run ((ai (ai @eSch_eta @eVw_eta) (ai @eTm_eta (ai @eTy_eta @gC)))) ?_; with_reducible repeat' (first | exact True.intro | refine Lf.mk ?_ ?_ | intro hb)
      refine Cal ((ai @eTm_eta @eTy_eta)) (specAsks_ok v.cond hvc) ?_
      cases hA : askT v.cond with
      | true =>
        have e := hno fun h => by have h' := h.2.1; rw [hA] at h'; cases h'
        refine Run ((ai (ai @eSch_eta @eVw_eta) (ai @eTy_eta @e))) ?_; with_reducible repeat' (first | exact True.intro | refine Lf.mk ?_ ?_ | intro hb)
      | false =>
        refine Run ((ai @eSch_eta (ai @eVw_eta @eTy_eta))) ?_; with_reducible repeat' (first | exact True.intro | refine Lf.mk ?_ ?_ | intro hb)
        refine Trn (α := Nat) [4, 7, 42, 43, 44, 45, 46, 47, 48, 49, 50, 51, 52, 53, 54, 55, 56, 57] (fun i => [(7, iT i)]) (fun i => [(4, .box 39 ((eSch s).map .im)), (6, .box 48 ((eVw v).map .im)), (10, .box 43 ((eTy row).map .im))]) (fun i => i ≤ v.cols.length ∧ ((v.cols.take i).any fun c => !(row.labels.any fun x => decide (x = c))) = false) (fun i => v.cols.length - i) (0) (⟨Nat.zero_le _, rfl⟩) ((ai @eSch_eta (ai @eVw_eta @eTy_eta))) ?_; intro lx hI; obtain i := lx; (try simp only [List.nil_append, List.cons_append] at hI ⊢)
        by_cases hlt : lx < v.cols.length
        · refine Run ((ai (ai @eSch_eta @eVw_eta) (ai @eTy_eta (ai @hlt @eS.eq_1)))) ?_; with_reducible repeat' (first | exact True.intro | refine Lf.mk ?_ ?_ | intro hb)
          refine Cal (@eTy_eta) (indexOf_ok row.labels v.cols[lx] hrl) ?_
          cases hx : row.labels.any fun x => decide (x = v.cols[lx]) with
          | true =>
            have g1 : (idxI (fun x => decide (x = v.cols[lx])) row.labels < 0) = False := eq_false (by have := idx_ge (p := fun x => decide (x = v.cols[lx])) (l := row.labels); rw [hx] at this; have := of_decide_eq_true this; omega)
            refine Run ((ai (ai @eSch_eta @eVw_eta) (ai @eTy_eta @g1))) ?_; with_reducible repeat' (first | exact True.intro | refine Lf.mk ?_ ?_ | intro hb)
            exact Nxt ((ai @eSch_eta (ai @eVw_eta @eTy_eta))) (lx + 1) (⟨by omega, any_take hlt hI.2 (by rw [hx]; rfl)⟩) (by first | omega | (simp; omega))
          | false =>
            have g1 : (idxI (fun x => decide (x = v.cols[lx])) row.labels < 0) = True := eq_true (by have := idx_ge (p := fun x => decide (x = v.cols[lx])) (l := row.labels); rw [hx] at this; have := of_decide_eq_false this; omega)
            have e := hno fun h => by
              have := List.any_eq_false.1 h.2.2.2.2.1 _ (List.getElem_mem hlt)
              rw [hx] at this; exact this rfl
            refine Run ((ai (ai @eSch_eta @eVw_eta) (ai @eTy_eta (ai @g1 @e)))) ?_; with_reducible repeat' (first | exact True.intro | refine Lf.mk ?_ ?_ | intro hb)
        · have hM := any_all (by omega) hI.2
          refine Run ((ai (ai @eSch_eta @eVw_eta) (ai @eTy_eta @hlt))) ?_; with_reducible repeat' (first | exact True.intro | refine Lf.mk ?_ ?_ | intro hb)
          refine CalI (@eTy_eta) (HF) ?_
          refine Run ((ai @eSch_eta (ai @eVw_eta @eTy_eta))) ?_; with_reducible repeat' (first | exact True.intro | refine Lf.mk ?_ ?_ | intro hb)
          refine ⟨rfl, rfl, ?_⟩
          refine Run ((ai @eSch_eta (ai @eVw_eta @eTy_eta))) ?_; with_reducible repeat' (first | exact True.intro | refine Lf.mk ?_ ?_ | intro hb)
          refine Cal (@eTy_eta) (indexOf_ok v.cols v.key (by omega)) ?_
          cases hK : v.cols.any fun x => decide (x = v.key) with
          | false =>
            have g1 : (0 ≤ idxI (fun x => decide (x = v.key)) v.cols) = False := eq_false (by have := idx_ge (p := fun x => decide (x = v.key)) (l := v.cols); rw [hK] at this; exact of_decide_eq_false this)
            have e := hno fun h => by have h' := h.2.2.2.2.2.1; rw [hK] at h'; cases h'
            refine Run ((ai (ai @eSch_eta @eVw_eta) (ai @eTy_eta (ai @g1 @e)))) ?_; with_reducible repeat' (first | exact True.intro | refine Lf.mk ?_ ?_ | intro hb)
          | true =>
            have g1 : (0 ≤ idxI (fun x => decide (x = v.key)) v.cols) = True := eq_true (by have := idx_ge (p := fun x => decide (x = v.key)) (l := v.cols); rw [hK] at this; exact of_decide_eq_true this)
            by_cases hk : ((fieldT row v.key).getD ty0).kind = 1
            · have gk := eq_true hk
              have e : hasB s (vRow row) v.cond 2 = decide (ViewIn s v row) := by
                cases hB : hasB s (vRow row) v.cond 2 with
                | true => exact (decide_eq_true ⟨hB, hA, h0, hC, hM, hK, hk⟩).symm
                | false => exact (hno fun h => by have h' := h.1; rw [hB] at h'; cases h').symm
              refine Run ((ai (ai @eSch_eta (ai @eVw_eta @eTm_eta)) (ai @eTy_eta (ai @g1 @gk)))) ?_; with_reducible repeat' (first | exact True.intro | refine Lf.mk ?_ ?_ | intro hb)
              refine CalI (@eTy_eta) (sBool_t) ?_
              refine Run ((ai (ai @eSch_eta @eVw_eta) (ai @eTm_eta @eTy_eta))) ?_; with_reducible repeat' (first | exact True.intro | refine Lf.mk ?_ ?_ | intro hb)
              refine Cal ((ai (ai @eSch_eta @eTm_eta) (ai @eTy_eta (ai @vRow_len @vRow_eta)))) (HB) ?_
              refine Run ((ai (ai @eSch_eta @eVw_eta) (ai @eTy_eta @e))) ?_; with_reducible repeat' (first | exact True.intro | refine Lf.mk ?_ ?_ | intro hb)
            · have gk := eq_false hk
              have e := hno fun h => hk h.2.2.2.2.2.2
              refine Run ((ai (ai @eSch_eta (ai @eVw_eta @eTy_eta)) (ai @g1 (ai @gk @e)))) ?_; with_reducible repeat' (first | exact True.intro | refine Lf.mk ?_ ?_ | intro hb)
    · have gC := eq_false hC
      have e := hno fun h => hC h.2.2.2.1
      refine Run ((ai (ai @eSch_eta @eVw_eta) (ai @eTy_eta (ai @gC @e)))) ?_; with_reducible repeat' (first | exact True.intro | refine Lf.mk ?_ ?_ | intro hb)

theorem specView_ok (s : List Decl) (hs : okSch (2^20) s) (hz : zSch s ≤ 2^20) (v : Vw) (hv : okVw (2^20) v) (hzv : zVw v ≤ 2^20) : FnP Tryz.prog 7 [agT (eSch s), agT (eVw v)] (bT (decide (ViewOk s v))) := by
  cases hr : rowT s v.table with
  | none => rw [view_a hr]; exact specView_a s hs v hr
  | some row =>
    by_cases hS : SchOk s
    · rw [view_c hS hr]; exact specView_c s hs hz v hv hzv row hr hS
    · rw [view_b hS]; exact specView_b s hs hz v row hr hS
end Go.VC.T
/- Types that are new: the program's copies, bags. -/
namespace Go.VC.T
open Go Go.VC Go.Proofs Go.VC.F
theorem slCloneS_any (xs : List ByteArray) (hx : xs.length ≤ 2^20) (q : Nat) : FnS Tryz.prog 48 [] [slT eS xs] [(q, .vec 9 1 xs.length (xs.flatMap eS) true)] (.c (.os q xs.length)) := by
  obtain ⟨p, hp⟩ := pm1 10 q
  refine ((slCloneS_ok xs hx).pm p).as ?_ ?_ <;> simp [renS, Ob.ren, TV.ren, Cell.ren, hp]
def fc49A111 := (ai (ai (ai (ai sz3 (ai ag3 zv3)) (ai un3 (ai sz25 ag25))) (ai (ai zv25 (ai sb25 un25)) (ai (ai el25 ap25) (ai sz41 ag41)))) (ai (ai (ai zv41 (ai sb41 un41)) (ai (ai el41 ap41) (ai sz43 ag43))) (ai (ai zv43 (ai fl43_0 fl43_1)) (ai (ai fl43_2 pl43) (ai okf48 okf49)))))
theorem cloneTy_w (v : Ty) (hv : okTy (2^20) v) (H : ∀ u ∈ v.args, ∀ q0 q1 : Nat, [q0, q1].Nodup → FnS Tryz.prog 49 [] [agT (eTy u)] [(q0, .row u.labels.length (u.labels.flatMap eS)), (q1, .row u.args.length (u.args.flatMap eTy))] (.ag [.im (.sc (.int .i64 u.kind)), .os q0 u.labels.length, .os q1 u.args.length])) : FnS Tryz.prog 49 [] [agT (eTy v)] [(2000, .row v.labels.length (v.labels.flatMap eS)), (1000, .vec 43 3 v.args.length (v.args.flatMap eTy) true)] (.ag [.im (.sc (.int .i64 v.kind)), .os 2000 v.labels.length, .os 1000 v.args.length]) := by
  refine FnS.go [0, 1, 2, 3, 5, 13, 14, 15, 16] [] Tryz.func49 rfl (fun kt kz => ?_)
  have fcx := fc49A111
  simp only [Tryz.f49]
  have ho := okTy_iff.1 hv
  have hl1 := ho.2.1.1
  have hl := ho.2.2.1
  have HC : FnS Tryz.prog 48 [] [slT eS v.labels] [(2000, .row v.labels.length (v.labels.flatMap eS))] (.c (.os 2000 v.labels.length)) := (slCloneS_any v.labels hl1 2000).rows
  refine Run (@eTy_eta) ?_; with_reducible repeat' (first | exact True.intro | refine Lf.mk ?_ ?_ | intro hb)
  refine Sm.drawH [0, 1, 2, 3] 40 [(4, [], [0, 1]), (5, [4], []), (6, [], [0, 1, 2, 3]), (7, [5, 6], [])] mixed (by decide +kernel) (by decide) (by (simp only [List.filterMap_cons, List.filterMap_nil, List.getElem?_toArray, List.getElem?_cons_succ, List.getElem?_cons_zero]); exact rfl) ?_ ?_ ?_
  rotate_left
  · have fx := @eTy_eta
    simp -dsimp (maxSteps := 2000000) (disch := omega) only [vs, ↓Option.bind_some, ev1, ofV, scalarB, Kn, Kb, calleeOf, evLoad, ptr, evField, evFieldAddr, shift, ↓pt_at, ↓pt_at1, evExtract, evBin, evLen, evConv, cellsT, noS, Cell.has, Cell.hasN, Cell.anyN, toIV, toIV0, toIVs, ownC, srcM, Ob.own, Ob.esz, allSc, nilK, lenC, ownCell, isPtr, ptrNil, frzO, Cell.frz, Cell.keys, ↓reduceIte, reduceCtorEq, Nat.reduceEqDiff, Nat.reduceBEq, Nat.reduceBNe, Nat.reduceAdd, Nat.reduceMul, Nat.reduceSub, Nat.reduceLT, Nat.reduceLeDiff, Nat.reducePow, Int.reduceLT, Int.reduceLE, Int.reduceEq, Int.reduceNe, quietB, Nat.reduceMod, Int.reduceToNat, ne_eq, eq_self, exists_const, evBytes, byRow, byL, byStr_size, ifsz, ByteArray.size_append, Option.none_or, Option.some_or, evLook, keyD, qX_nil, qX_cons, apQ, opsM_nil, opsM_cons, solI_nil, solI_cons, solE, Option.isSome_some, true_or, or_true, true_and, allSc_eS, allSc_eI, flat_len', Nat.mul_one, Nat.zero_add, List.nil_append, List.append_nil, fcx, fx]
    repeat' (first | (with_reducible refine goAN) | (with_reducible exact goWt (by with_unfolding_all exact rfl)) | ((with_reducible refine goOne (by simp only [List.getElem?_toArray, List.getElem?_cons_succ, List.getElem?_cons_zero]; exact rfl) (by simp only [List.filter_cons, List.filter_nil, Nat.reduceBNe, ↓reduceIte, Bool.false_eq_true]; exact rfl) ?_); simp -dsimp (maxSteps := 2000000) (disch := omega) only [vs, ↓Option.bind_some, ev1, ofV, scalarB, Kn, Kb, calleeOf, evLoad, ptr, evField, evFieldAddr, shift, ↓pt_at, ↓pt_at1, evExtract, evBin, evLen, evConv, cellsT, noS, Cell.has, Cell.hasN, Cell.anyN, toIV, toIV0, toIVs, ownC, srcM, Ob.own, Ob.esz, allSc, nilK, lenC, ownCell, isPtr, ptrNil, frzO, Cell.frz, Cell.keys, ↓reduceIte, reduceCtorEq, Nat.reduceEqDiff, Nat.reduceBEq, Nat.reduceBNe, Nat.reduceAdd, Nat.reduceMul, Nat.reduceSub, Nat.reduceLT, Nat.reduceLeDiff, Nat.reducePow, Int.reduceLT, Int.reduceLE, Int.reduceEq, Int.reduceNe, quietB, Nat.reduceMod, Int.reduceToNat, ne_eq, eq_self, exists_const, evBytes, byRow, byL, byStr_size, ifsz, ByteArray.size_append, Option.none_or, Option.some_or, evLook, keyD, qX_nil, qX_cons, apQ, opsM_nil, opsM_cons, solI_nil, solI_cons, solE, Option.isSome_some, true_or, or_true, true_and, allSc_eS, allSc_eI, flat_len', Nat.mul_one, Nat.zero_add, List.nil_append, List.append_nil, fcx, fx]) | (with_reducible refine goAC ?_ ?_) | (with_reducible refine goOG ?_) | (with_reducible refine goOZ ?_) | ((with_reducible refine goCG ?_); (refine Cal fx (HC) ?_); (try simp -dsimp (maxSteps := 2000000) (disch := omega) only [vs, ↓Option.bind_some, ev1, ofV, scalarB, Kn, Kb, calleeOf, evLoad, ptr, evField, evFieldAddr, shift, ↓pt_at, ↓pt_at1, evExtract, evBin, evLen, evConv, cellsT, noS, Cell.has, Cell.hasN, Cell.anyN, toIV, toIV0, toIVs, ownC, srcM, Ob.own, Ob.esz, allSc, nilK, lenC, ownCell, isPtr, ptrNil, frzO, Cell.frz, Cell.keys, ↓reduceIte, reduceCtorEq, Nat.reduceEqDiff, Nat.reduceBEq, Nat.reduceBNe, Nat.reduceAdd, Nat.reduceMul, Nat.reduceSub, Nat.reduceLT, Nat.reduceLeDiff, Nat.reducePow, Int.reduceLT, Int.reduceLE, Int.reduceEq, Int.reduceNe, quietB, Nat.reduceMod, Int.reduceToNat, ne_eq, eq_self, exists_const, evBytes, byRow, byL, byStr_size, ifsz, ByteArray.size_append, Option.none_or, Option.some_or, evLook, keyD, qX_nil, qX_cons, apQ, opsM_nil, opsM_cons, solI_nil, solI_cons, solE, Option.isSome_some, true_or, or_true, true_and, allSc_eS, allSc_eI, flat_len', Nat.mul_one, Nat.zero_add, List.nil_append, List.append_nil, fcx, fx])))
    all_goals (first | (with_reducible exact St.same.refl _) | (exact St.sameOf rfl (by simp only [List.map_cons, List.map_nil, List.cons_append, List.nil_append, List.forall_mem_cons, all_nil, get_cons, get_nil, ↓reduceIte, Nat.reduceEqDiff, and_self, and_true]) (by simp only [List.map_cons, List.map_nil, List.cons_append, List.nil_append, List.forall_mem_cons, all_nil, get_cons, get_nil, ↓reduceIte, Nat.reduceEqDiff, and_self, and_true])))
  (try simp only [Kn, Kb, ↓reduceIte, Nat.reduceEqDiff])
  refine Run (@eTy_eta) ?_; with_reducible repeat' (first | exact True.intro | refine Lf.mk ?_ ?_ | intro hb)
  refine Sm.nlB (6) 2 (1000) (43) 3 true (by rfl) (by rfl) (by rfl) (by decide) (by rfl) (by rfl) (by decide) (by rfl) ?_; simp only [upd, List.set_cons_zero, List.set_cons_succ, ↓reduceIte, Nat.reduceEqDiff]
  have dq : Dq [0, 1, 2, 6] [3, 4, 5, 7] 40 [[0, 1, 6], [0, 1, 6], [6], []] := ⟨⟩
  refine Trn (α := Nat) [5, 15, 16, 17, 18, 19, 20, 21, 22, 23, 24, 25, 26] (fun i => [(15, iT i)]) (fun i => [(2, .box 43 ((eTy v).map .im)), (4, .box 43 [.im (.sc (.int .i64 0)), .nl, .nl]), (6, .box 43 [.im (.sc (.int .i64 v.kind)), .os 2000 v.labels.length, .os 1000 i]), (2000, .row v.labels.length (v.labels.flatMap eS)), (1000, .vec 43 3 i ((v.args.take i).flatMap eTy) true)]) (fun i => i ≤ v.args.length) (fun i => v.args.length - i) (0) (Nat.zero_le _) (@eTy_eta) ?_; intro lx hI; obtain i := lx; (try simp only [List.nil_append, List.cons_append] at hI ⊢)
  by_cases hlt : lx < v.args.length
  · have e1 : (v.args.take lx).flatMap eTy ++ eTy v.args[lx] = (v.args.take (lx + 1)).flatMap eTy := by rw [take_at hlt, List.flatMap_append, flat_one]
    rw [eTy_eta v.args[lx]] at e1
    simp only [slI] at e1
    refine RunX ((ai @eTy_eta @hlt)) ?_; with_reducible repeat' (first | exact True.intro | refine Lf.mk ?_ ?_ | intro hb)
    refine Cal (@eTy_eta) (H _ (List.getElem_mem hlt) 3000 3002 (by decide)) ?_
    refine RunX ((ai @eTy_eta (ai @hlt @e1))) ?_; with_reducible repeat' (first | exact True.intro | refine Lf.mk ?_ ?_ | intro hb)
    exact Nxt ((ai @eTy_eta @e1)) (lx + 1) (hlt) (by first | omega | (simp; omega))
  · obtain rfl : lx = v.args.length := by omega
    have e1 : (v.args.take v.args.length).flatMap eTy = v.args.flatMap eTy := by rw [List.take_length]
    refine Run ((ai @eTy_eta (ai @hlt @e1))) ?_; with_reducible repeat' (first | exact True.intro | refine Lf.mk ?_ ?_ | intro hb)

theorem cloneTy_q (v : Ty) (hv : okTy (2^20) v) (H : ∀ u ∈ v.args, ∀ q0 q1 : Nat, [q0, q1].Nodup → FnS Tryz.prog 49 [] [agT (eTy u)] [(q0, .row u.labels.length (u.labels.flatMap eS)), (q1, .row u.args.length (u.args.flatMap eTy))] (.ag [.im (.sc (.int .i64 u.kind)), .os q0 u.labels.length, .os q1 u.args.length])) : ∀ q0 q1 : Nat, [q0, q1].Nodup → FnS Tryz.prog 49 [] [agT (eTy v)] [(q0, .row v.labels.length (v.labels.flatMap eS)), (q1, .row v.args.length (v.args.flatMap eTy))] (.ag [.im (.sc (.int .i64 v.kind)), .os q0 v.labels.length, .os q1 v.args.length]) := by
  intro q0 q1 hq
  obtain ⟨p, hp⟩ := pml [2000, 1000] [q0, q1] (by decide) hq rfl
  simp only [List.map_cons, List.map_nil, List.cons.injEq, and_true] at hp
  refine ((cloneTy_w v hv H).rows.pm p).as ?_ ?_ <;> simp [rowS, rowO, renS, Ob.ren, TV.ren, renL, Cell.ren, hp]
theorem cloneTy_o (v : Ty) (hv : okTy (2^20) v) : ∀ q0 q1 : Nat, [q0, q1].Nodup → FnS Tryz.prog 49 [] [agT (eTy v)] [(q0, .row v.labels.length (v.labels.flatMap eS)), (q1, .row v.args.length (v.args.flatMap eTy))] (.ag [.im (.sc (.int .i64 v.kind)), .os q0 v.labels.length, .os q1 v.args.length]) :=
  cloneTy_q v hv fun u hu => cloneTy_o u ((okTy_iff.1 hv).2.2.2 u hu)
termination_by SizeOf.sizeOf v
decreasing_by exact Ty.mem hu
def fc50A111 := (ai (ai (ai (ai sz41 ag41) (ai zv41 sb41)) (ai (ai un41 el41) (ai ap41 sz43))) (ai (ai (ai ag43 zv43) (ai fl43_0 fl43_1)) (ai (ai fl43_2 pl43) (ai sz3 sz25))))
theorem bagType_w (k : Int) (l : List ByteArray) (a : List Ty) : FnS Tryz.prog 50 [(1, .row l.length (l.flatMap eS)), (3, .vec 43 3 a.length (a.flatMap eTy) true)] [.ag [.im (.sc (.int .i64 k)), .os 1 l.length, .os 3 a.length]] [(8, .vec 43 3 1 (eTy (.mk k l a)) true)] (.ag [.im (.sc (.int .i64 4)), .nl, .os 8 1]) := by
  refine FnS.go [0, 1, 2] [] Tryz.func50 rfl (fun kt kz => ?_) (hodd := by refine oddS _ ?_; simp)
  have fcx := fc50A111
  simp only [Tryz.f50]
  have e0 : eTy (.mk k l a) = [.sc (.int .i64 k), .sl l.length (l.flatMap eS), .sl a.length (a.flatMap eTy)] := eTy_eta _
  refine Run (@e0) ?_; with_reducible repeat' (first | exact True.intro | refine Lf.mk ?_ ?_ | intro hb)

end Go.VC.T
/- Views' types: what both sides compute; the reference. -/
namespace Go.VC
open Go
noncomputable def vTs (row : Ty) (cols : List ByteArray) : List Ty := cols.map fun c => (fieldT row c).getD ty0
noncomputable def vTy (row : Ty) (cols : List ByteArray) : Ty := .mk 3 cols (vTs row cols)
theorem vTs_len {row : Ty} {cols : List ByteArray} : (vTs row cols).length = cols.length := by simp [vTs]
theorem vTs_succ {row : Ty} {cols : List ByteArray} {i : Nat} (h : i < cols.length) : ((vTs row cols).take i).flatMap eTy ++ eTy ((fieldT row cols[i]).getD ty0) = ((vTs row cols).take (i + 1)).flatMap eTy := by
  have h' : i < (vTs row cols).length := by rw [vTs_len]; exact h
  rw [take_at h', List.flatMap_append, flat_one]
  simp [vTs]
theorem vTs_ok {row : Ty} {cols : List ByteArray} (h : TyOk row) (hl : cols.length ≤ 2^20) : okLs (2^20) okTy (vTs row cols) := by
  refine ⟨by rw [vTs_len]; exact hl, fun t ht => ?_⟩
  obtain ⟨c, hc, rfl⟩ := List.mem_map.1 ht
  cases hf : fieldT row c with
  | none => exact ok_ty0
  | some t =>
    by_cases g : TyOk row ∧ row.kind = 3 ∧ 0 ≤ idxI (fun x => decide (x = c)) row.labels
    · obtain ⟨j, _, hj, h2⟩ := fieldT_at g
      rw [h2] at hf
      obtain rfl := Option.some.inj hf
      exact (bnd_arg h (List.getElem_mem hj)).1
    · rw [fieldT_no g] at hf; cases hf
theorem vTy_ok {row : Ty} {cols : List ByteArray} (h : TyOk row) (hl : okLs (2^20) okS cols) : okTy (2^20) (vTy row cols) := okTy_iff.2 ⟨ok64_k (k := 3) (by omega), hl, vTs_ok h hl.1⟩
theorem tBag_ok {t : Ty} (h : okTy (2^20) t) : okTy (2^20) (tBag t) := okTy_iff.2 ⟨ok64_k (k := 4) (by omega), ⟨by simp [tBag, Ty.labels], by simp [tBag, Ty.labels]⟩, ⟨by simp [tBag, Ty.args], fun a ha => by
  have : a = t := by simpa [tBag, Ty.args] using ha
  rw [this]; exact h⟩⟩
end Go.VC
namespace Go.VC.T
open Go Go.VC Go.Proofs Go.VC.F
def fc13A112 := (ai (ai (ai (ai (ai sz3 (ai ag3 zv3)) (ai un3 (ai sz4 ag4))) (ai (ai zv4 (ai un4 sz9)) (ai (ai ag9 zv9) (ai un9 sz25)))) (ai (ai (ai ag25 (ai zv25 sb25)) (ai un25 (ai el25 ap25))) (ai (ai sz39 (ai ag39 zv39)) (ai (ai fl39_0 pl39) (ai sz41 ag41))))) (ai (ai (ai (ai zv41 (ai sb41 un41)) (ai el41 (ai ap41 sz43))) (ai (ai ag43 (ai zv43 fl43_0)) (ai (ai fl43_1 fl43_2) (ai pl43 sz48)))) (ai (ai (ai ag48 (ai zv48 fl48_0)) (ai (ai fl48_1 fl48_2) (ai fl48_3 pl48))) (ai (ai okf7 (ai okf23 okf28)) (ai (ai okf46 okf47) (ai sz37 sz46))))))
theorem specVT_a (s : List Decl) (hs : okSch (2^20) s) (hz : zSch s ≤ 2^20) (v : Vw) (hv : okVw (2^20) v) (hzv : zVw v ≤ 2^20) (hV : ¬ ViewOk s v) : FnS Tryz.prog 13 [] [agT (eSch s), agT (eVw v)] [] (.tp [.ag [.im (.sc (.int .i64 0)), .nl, .nl], bT false]) := by
  refine FnS.go [0, 1, 2, 3, 4, 5, 6, 8, 9, 10, 15, 29] [] Tryz.func13 rfl (fun kt kz => ?_)
  have fcx := fc13A112
  simp only [Tryz.f13]
  have gV := decide_eq_false hV
  refine Run ((ai @eSch_eta @eVw_eta)) ?_; with_reducible repeat' (first | exact True.intro | refine Lf.mk ?_ ?_ | intro hb)
  refine Cal ((ai @eSch_eta @eVw_eta)) (specView_ok s hs hz v hv hzv) ?_
  refine Run ((ai @eSch_eta (ai @eVw_eta @gV))) ?_; with_reducible repeat' (first | exact True.intro | refine Lf.mk ?_ ?_ | intro hb)
theorem specVT_b (s : List Decl) (hs : okSch (2^20) s) (hz : zSch s ≤ 2^20) (v : Vw) (hv : okVw (2^20) v) (hzv : zVw v ≤ 2^20) (row : Ty) (hr : rowT s v.table = some row) (hS : SchOk s) (hV : ViewOk s v) : FnS Tryz.prog 13 [] [agT (eSch s), agT (eVw v)] [] (.tp [agT (eTy (tBag (vTy row v.cols))), bT true]) := by
  refine FnS.go [0, 1, 2, 3, 4, 5, 6, 8, 9, 10, 15, 29] [] Tryz.func13 rfl (fun kt kz => ?_)
  have fcx := fc13A112
  simp only [Tryz.f13]
  have hh := specRowT_ok s hs v.table
  rw [hr] at hh
  have hh : FnP Tryz.prog 23 [agT (eSch s), sT v.table] (.tp [agT (eTy row), bT true]) := hh
  have gV := decide_eq_true hV
  have hR := row_ok hS hr
  obtain ⟨hvt, hvc, hvl, hvk⟩ := okVw_iff.1 hv
  have hl20 : v.cols.length ≤ 2^20 := hvl.1
  have fl0 : ((vTs row v.cols).take 0).flatMap eTy = [] := rfl
  have hfin : (vTs row v.cols).take v.cols.length = vTs row v.cols := List.take_of_length_le (by rw [vTs_len]; omega)
  have hlen := vTs_len (row := row) (cols := v.cols)
  have HR : FnP Tryz.prog 47 [slT eS v.cols, .c (.im (.sl v.cols.length ((vTs row v.cols).flatMap eTy)))] (agT (eTy (vTy row v.cols))) := by
    have := l3Rec_t v.cols hl20 (vTs row v.cols) (vTs_ok hR.1 hl20)
    unfold slT slI at this; rwa [hlen] at this
  refine Run ((ai @eSch_eta @eVw_eta)) ?_; with_reducible repeat' (first | exact True.intro | refine Lf.mk ?_ ?_ | intro hb)
  refine Cal ((ai @eSch_eta @eVw_eta)) (specView_ok s hs hz v hv hzv) ?_
  refine Run ((ai @eSch_eta (ai @eVw_eta @gV))) ?_; with_reducible repeat' (first | exact True.intro | refine Lf.mk ?_ ?_ | intro hb)
  refine CalI ((ai @eSch_eta @eTy_eta)) (hh) ?_
  refine Run ((ai @eSch_eta (ai @eVw_eta @eTy_eta))) ?_; with_reducible repeat' (first | exact True.intro | refine Lf.mk ?_ ?_ | intro hb)
  refine ⟨rfl, rfl, ?_⟩
  refine Run ((ai @eSch_eta (ai @eVw_eta @eTy_eta))) ?_; with_reducible repeat' (first | exact True.intro | refine Lf.mk ?_ ?_ | intro hb)
  refine Sm.share (48) (by simp -dsimp (maxSteps := 2000000) (disch := omega) only [vs, ↓Option.bind_some, ev1, ofV, scalarB, Kn, Kb, calleeOf, evLoad, ptr, evField, evFieldAddr, shift, ↓pt_at, ↓pt_at1, evExtract, evBin, evLen, evConv, cellsT, noS, Cell.has, Cell.hasN, Cell.anyN, toIV, toIV0, toIVs, ownC, srcM, Ob.own, Ob.esz, allSc, nilK, lenC, ownCell, isPtr, ptrNil, frzO, Cell.frz, Cell.keys, ↓reduceIte, reduceCtorEq, Nat.reduceEqDiff, Nat.reduceBEq, Nat.reduceBNe, Nat.reduceAdd, Nat.reduceMul, Nat.reduceSub, Nat.reduceLT, Nat.reduceLeDiff, Nat.reducePow, Int.reduceLT, Int.reduceLE, Int.reduceEq, Int.reduceNe, quietB, Nat.reduceMod, Int.reduceToNat, ne_eq, eq_self, exists_const, evBytes, byRow, byL, byStr_size, ifsz, ByteArray.size_append, Option.none_or, Option.some_or, evLook, keyD, fc13A112]) ?_; simp -dsimp (maxSteps := 2000000) (disch := omega) only [vs, ↓Option.bind_some, ev1, ofV, scalarB, Kn, Kb, calleeOf, evLoad, ptr, evField, evFieldAddr, shift, ↓pt_at, ↓pt_at1, evExtract, evBin, evLen, evConv, cellsT, noS, Cell.has, Cell.hasN, Cell.anyN, toIV, toIV0, toIVs, ownC, srcM, Ob.own, Ob.esz, allSc, nilK, lenC, ownCell, isPtr, ptrNil, frzO, Cell.frz, Cell.keys, ↓reduceIte, reduceCtorEq, Nat.reduceEqDiff, Nat.reduceBEq, Nat.reduceBNe, Nat.reduceAdd, Nat.reduceMul, Nat.reduceSub, Nat.reduceLT, Nat.reduceLeDiff, Nat.reducePow, Int.reduceLT, Int.reduceLE, Int.reduceEq, Int.reduceNe, quietB, Nat.reduceMod, Int.reduceToNat, ne_eq, eq_self, exists_const, evBytes, byRow, byL, byStr_size, ifsz, ByteArray.size_append, Option.none_or, Option.some_or, evLook, keyD, fc13A112, St.share]
  refine Trn (α := Nat) [8, 9, 10, 11, 25, 26, 27, 28, 29, 30, 31, 32, 33, 34, 35, 36, 37, 38, 39, 40, 41, 42, 43, 44, 45] (fun i => [(9, iT i), (8, .c (.os 48 i))]) (fun i => [(4, .box 39 ((eSch s).map .im)), (6, .box 48 ((eVw v).map .im)), (8, .box 43 [.im (.sc (.int .i64 0)), .nl, .nl]), (12, .box 43 ((eTy row).map .im)), (48, .vec 43 3 i (((vTs row v.cols).take i).flatMap eTy) false)]) (fun i => i ≤ v.cols.length) (fun i => v.cols.length - i) (0) (Nat.zero_le _) ((ai (ai @eSch_eta @eVw_eta) (ai @eTy_eta @fl0))) ?_; intro lx hI; obtain i := lx; (try simp only [List.nil_append, List.cons_append] at hI ⊢)
  by_cases hlt : lx < v.cols.length
  · have e1 := vTs_succ (row := row) hlt
    have HF := specField_ok row hR.1.ok (by have := hR.1.z; omega) v.cols[lx]
    generalize (fieldT row v.cols[lx]).getD ty0 = u at *
    rw [eTy_eta u] at e1
    simp only [slI] at e1
    refine RunX ((ai (ai @eSch_eta @eVw_eta) (ai @eTy_eta (ai @hlt @eS.eq_1)))) ?_; with_reducible repeat' (first | exact True.intro | refine Lf.mk ?_ ?_ | intro hb)
    refine Sm.drawYK [0, 1, 2, 3, 4, 5, 6, 7, 8, 9] 10 10 40 [(11, [], [9]), (12, [11], [])] mixed (by decide +kernel) (by simp only [get_cons, get_nil, ↓reduceIte, Nat.reduceMul, Nat.reduceEqDiff, Option.isSome_none, Option.isSome_some]) (by (simp only [List.getElem?_toArray, List.getElem?_cons_succ, List.getElem?_cons_zero]); exact rfl) (by (simp only [List.filterMap_cons, List.filterMap_nil, List.getElem?_toArray, List.getElem?_cons_succ, List.getElem?_cons_zero]); exact rfl) (by (simp only [List.filterMap_cons, List.filterMap_nil, List.getElem?_toArray, List.getElem?_cons_succ, List.getElem?_cons_zero]); exact rfl) rfl ?_; refine RunX ((ai (ai @eSch_eta @eVw_eta) (ai @eTy_eta (ai @hlt @eS.eq_1)))) ?_; with_reducible repeat' (first | exact True.intro | refine Lf.mk ?_ ?_ | intro hb)
    refine CalI (@eTy_eta) (HF) ?_
    refine RunX ((ai (ai @eSch_eta @eVw_eta) (ai @eTy_eta (ai @hlt @e1)))) ?_; with_reducible repeat' (first | exact True.intro | refine Lf.mk ?_ ?_ | intro hb)
    refine ⟨rfl, rfl, ?_⟩
    refine RunX ((ai (ai @eSch_eta @eVw_eta) (ai @eTy_eta (ai @hlt @e1)))) ?_; with_reducible repeat' (first | exact True.intro | refine Lf.mk ?_ ?_ | intro hb)
    exact Nxt ((ai (ai @eSch_eta @eVw_eta) (ai @eTy_eta @e1))) (lx + 1) (hlt) (by first | omega | (simp; omega))
  · obtain rfl : lx = v.cols.length := by omega
    refine Run ((ai (ai @eSch_eta @eVw_eta) (ai @eTy_eta (ai @hlt @hfin)))) ?_; with_reducible repeat' (first | exact True.intro | refine Lf.mk ?_ ?_ | intro hb)
    refine CallG.frz1 48 rfl ?_
    simp -dsimp (maxSteps := 2000000) (disch := omega) only [vs, ↓Option.bind_some, ev1, ofV, scalarB, Kn, Kb, calleeOf, evLoad, ptr, evField, evFieldAddr, shift, ↓pt_at, ↓pt_at1, evExtract, evBin, evLen, evConv, cellsT, noS, Cell.has, Cell.hasN, Cell.anyN, toIV, toIV0, toIVs, ownC, srcM, Ob.own, Ob.esz, allSc, nilK, lenC, ownCell, isPtr, ptrNil, frzO, Cell.frz, Cell.keys, ↓reduceIte, reduceCtorEq, Nat.reduceEqDiff, Nat.reduceBEq, Nat.reduceBNe, Nat.reduceAdd, Nat.reduceMul, Nat.reduceSub, Nat.reduceLT, Nat.reduceLeDiff, Nat.reducePow, Int.reduceLT, Int.reduceLE, Int.reduceEq, Int.reduceNe, quietB, Nat.reduceMod, Int.reduceToNat, ne_eq, eq_self, exists_const, evBytes, byRow, byL, byStr_size, ifsz, ByteArray.size_append, Option.none_or, Option.some_or, evLook, keyD, fc13A112, eSch_eta, eVw_eta, eTy_eta]
    refine CalI (@eTy_eta) (HR) ?_
    refine Run ((ai @eSch_eta (ai @eVw_eta @eTy_eta))) ?_; with_reducible repeat' (first | exact True.intro | refine Lf.mk ?_ ?_ | intro hb)
    refine CalI (@eTy_eta) (sBag_t (vTy row v.cols) (vTy_ok hR.1 hvl)) ?_
    refine Run ((ai @eSch_eta (ai @eVw_eta @eTy_eta))) ?_; with_reducible repeat' (first | exact True.intro | refine Lf.mk ?_ ?_ | intro hb)

end Go.VC.T
/- Views' types: the program. -/
namespace Go.VC.T
open Go Go.VC Go.Proofs Go.VC.F
def fc14A114 := (ai (ai (ai (ai (ai sz3 (ai ag3 zv3)) (ai un3 (ai sz4 ag4))) (ai (ai zv4 (ai un4 sz9)) (ai (ai ag9 zv9) (ai un9 sz25)))) (ai (ai (ai ag25 (ai zv25 sb25)) (ai (ai un25 el25) (ai ap25 sz39))) (ai (ai ag39 (ai zv39 fl39_0)) (ai (ai pl39 sz41) (ai ag41 zv41))))) (ai (ai (ai (ai sb41 (ai un41 el41)) (ai ap41 (ai sz43 ag43))) (ai (ai zv43 (ai fl43_0 fl43_1)) (ai (ai fl43_2 pl43) (ai sz48 ag48)))) (ai (ai (ai zv48 (ai fl48_0 fl48_1)) (ai (ai fl48_2 fl48_3) (ai pl48 okf10))) (ai (ai okf34 (ai okf42 okf48)) (ai (ai okf49 okf50) (ai sz37 sz46))))))
theorem implVT_a (s : List Decl) (hs : okSch (2^20) s) (hz : zSch s ≤ 2^20) (v : Vw) (hv : okVw (2^20) v) (hzv : zVw v ≤ 2^20) (hV : ¬ ViewOk s v) : FnS Tryz.prog 14 [] [agT (eSch s), agT (eVw v)] [] (.tp [.ag [.im (.sc (.int .i64 0)), .nl, .nl], bT false]) := by
  refine FnS.go [0, 1, 2, 3, 4, 5, 6, 8, 10, 14, 28, 29, 30, 31] [] Tryz.func14 rfl (fun kt kz => ?_)
  have fcx := fc14A114
  simp only [Tryz.f14]
  have gV := decide_eq_false hV
  refine Run ((ai @eSch_eta @eVw_eta)) ?_; with_reducible repeat' (first | exact True.intro | refine Lf.mk ?_ ?_ | intro hb)
  refine Cal ((ai @eSch_eta @eVw_eta)) (implView_ok s hs hz v hv hzv) ?_
  refine Run ((ai @eSch_eta (ai @eVw_eta @gV))) ?_; with_reducible repeat' (first | exact True.intro | refine Lf.mk ?_ ?_ | intro hb)
theorem implVT_b (s : List Decl) (hs : okSch (2^20) s) (hz : zSch s ≤ 2^20) (v : Vw) (hv : okVw (2^20) v) (hzv : zVw v ≤ 2^20) (row : Ty) (hr : rowT s v.table = some row) (hS : SchOk s) (hV : ViewOk s v) : FnS Tryz.prog 14 [] [agT (eSch s), agT (eVw v)] [(4000, .vec 43 3 1 (eTy (vTy row v.cols)) true)] (.tp [.ag [.im (.sc (.int .i64 4)), .nl, .os 4000 1], bT true]) := by
  refine FnS.go [0, 1, 2, 3, 4, 5, 6, 8, 10, 14, 28, 29, 30, 31] [] Tryz.func14 rfl (fun kt kz => ?_)
  have fcx := fc14A114
  simp only [Tryz.f14]
  have hh := implRowT_ok s hs v.table
  rw [hr] at hh
  have hh : FnP Tryz.prog 34 [agT (eSch s), sT v.table] (.tp [agT (eTy row), bT true]) := hh
  have gV := decide_eq_true hV
  have hI0 : ViewIn s v row := of_decide_eq_true (by rw [← view_c hS hr]; exact gV)
  have hR := row_ok hS hr
  obtain ⟨hvt, hvc, hvl, hvk⟩ := okVw_iff.1 hv
  have hl20 : v.cols.length ≤ 2^20 := hvl.1
  have hrl : row.labels.length ≤ 2^48 := by have := hR.1.ok; have := (okTy_iff.1 this).2.1.1; omega
  have fl0 : ((vTs row v.cols).take 0).flatMap eTy = [] := rfl
  have hfin : (vTs row v.cols).take v.cols.length = vTs row v.cols := List.take_of_length_le (by rw [vTs_len]; omega)
  have hlen := vTs_len (row := row) (cols := v.cols)
  have HC : FnS Tryz.prog 48 [] [slT eS v.cols] [(2000, .row v.cols.length (v.cols.flatMap eS))] (.c (.os 2000 v.cols.length)) := (slCloneS_any v.cols hl20 2000).rows
  have HB : FnS Tryz.prog 50 [(2000, .row v.cols.length (v.cols.flatMap eS)), (1000, .vec 43 3 v.cols.length ((vTs row v.cols).flatMap eTy) true)] [.ag [.im (.sc (.int .i64 3)), .os 2000 v.cols.length, .os 1000 v.cols.length]] [(4000, .vec 43 3 1 (eTy (vTy row v.cols)) true)] (.ag [.im (.sc (.int .i64 4)), .nl, .os 4000 1]) := by
    obtain ⟨f, hf⟩ := pml [1, 3, 8] [2000, 1000, 4000] (by decide) (by decide) rfl
    simp only [List.map_cons, List.map_nil, List.cons.injEq, and_true] at hf
    have := bagType_w 3 v.cols (vTs row v.cols)
    rw [hlen] at this
    refine (this.renA f).asA ?_ ?_ ?_ ?_ <;> simp [renS, Ob.ren, TV.ren, renL, Cell.ren, hf, vTy]
  refine Run ((ai @eSch_eta @eVw_eta)) ?_; with_reducible repeat' (first | exact True.intro | refine Lf.mk ?_ ?_ | intro hb)
  refine Cal ((ai @eSch_eta @eVw_eta)) (implView_ok s hs hz v hv hzv) ?_
  refine Run ((ai @eSch_eta (ai @eVw_eta @gV))) ?_; with_reducible repeat' (first | exact True.intro | refine Lf.mk ?_ ?_ | intro hb)
  refine CalI ((ai @eSch_eta @eTy_eta)) (hh) ?_
  refine Run ((ai @eSch_eta (ai @eVw_eta @eTy_eta))) ?_; with_reducible repeat' (first | exact True.intro | refine Lf.mk ?_ ?_ | intro hb)
  refine ⟨rfl, rfl, ?_⟩
  refine Run ((ai @eSch_eta (ai @eVw_eta @eTy_eta))) ?_; with_reducible repeat' (first | exact True.intro | refine Lf.mk ?_ ?_ | intro hb)
  refine Cal (@eTy_eta) (HC) ?_
  refine Run ((ai @eSch_eta (ai @eVw_eta @eTy_eta))) ?_; with_reducible repeat' (first | exact True.intro | refine Lf.mk ?_ ?_ | intro hb)
  refine Sm.nlB (16) 2 (1000) (43) 3 true (by rfl) (by rfl) (by rfl) (by decide) (by rfl) (by rfl) (by decide) (by rfl) ?_; simp only [upd, List.set_cons_zero, List.set_cons_succ, ↓reduceIte, Nat.reduceEqDiff]
  have dq : Dq [0, 1, 2, 3, 4, 5, 6, 7, 8, 9, 13] [10, 11, 12, 14] 40 [[0, 1, 13], [0, 1, 13], [13], []] := ⟨⟩
  refine Trn (α := Nat) [10, 30, 31, 32, 33, 34, 35, 36, 37, 38, 39, 40, 41, 42, 43, 44, 45, 46, 47, 48] (fun i => [(30, iT i)]) (fun i => [(4, .box 39 ((eSch s).map .im)), (6, .box 48 ((eVw v).map .im)), (8, .box 43 [.im (.sc (.int .i64 0)), .nl, .nl]), (12, .box 43 ((eTy row).map .im)), (16, .box 43 [.im (.sc (.int .i64 3)), .os 2000 v.cols.length, .os 1000 i]), (2000, .row v.cols.length (v.cols.flatMap eS)), (1000, .vec 43 3 i (((vTs row v.cols).take i).flatMap eTy) true)]) (fun i => i ≤ v.cols.length) (fun i => v.cols.length - i) (0) (Nat.zero_le _) ((ai (ai @eSch_eta @eVw_eta) (ai @eTy_eta @fl0))) ?_; intro lx hI; obtain i := lx; (try simp only [List.nil_append, List.cons_append] at hI ⊢)
  by_cases hlt : lx < v.cols.length
  · have hK : (v.cols.any fun x => decide (x = v.cols[lx])) = true := List.any_eq_true.2 ⟨_, List.getElem_mem hlt, by simp⟩
    obtain ⟨j, ej, hj, ef⟩ := key_at hR hI0.2.2.2.2.1 hK
    have e1 := vTs_succ (row := row) hlt
    rw [ef] at e1
    have e1 : ((vTs row v.cols).take lx).flatMap eTy ++ eTy row.args[j] = ((vTs row v.cols).take (lx + 1)).flatMap eTy := e1
    rw [eTy_eta row.args[j]] at e1
    simp only [slI] at e1
    refine RunX ((ai (ai @eSch_eta @eVw_eta) (ai @eTy_eta (ai @hlt @eS.eq_1)))) ?_; with_reducible repeat' (first | exact True.intro | refine Lf.mk ?_ ?_ | intro hb)
    refine Cal (@eTy_eta) (slIdxS_ok row.labels v.cols[lx] hrl) ?_
    refine RunX ((ai (ai @eSch_eta (ai @eVw_eta @eTy_eta)) (ai (ai @hlt @eS.eq_1) (ai @ej @hj)))) ?_; with_reducible repeat' (first | exact True.intro | refine Lf.mk ?_ ?_ | intro hb)
    refine Cal (@eTy_eta) (cloneTy_o row.args[j] (bnd_arg hR.1 (List.getElem_mem hj)).1 3000 3002 (by decide)) ?_
    refine RunX ((ai (ai @eSch_eta @eVw_eta) (ai @eTy_eta (ai @hlt @e1)))) ?_; with_reducible repeat' (first | exact True.intro | refine Lf.mk ?_ ?_ | intro hb)
    exact Nxt ((ai (ai @eSch_eta @eVw_eta) (ai @eTy_eta @e1))) (lx + 1) (hlt) (by first | omega | (simp; omega))
  · obtain rfl : lx = v.cols.length := by omega
    refine Run ((ai (ai @eSch_eta @eVw_eta) (ai @eTy_eta (ai @hlt @hfin)))) ?_; with_reducible repeat' (first | exact True.intro | refine Lf.mk ?_ ?_ | intro hb)
    refine CalO (@eTy_eta) (HB) ?_
    refine Run ((ai @eSch_eta (ai @eVw_eta @eTy_eta))) ?_; with_reducible repeat' (first | exact True.intro | refine Lf.mk ?_ ?_ | intro hb)

end Go.VC.T
