/- Data (Poly): how they are marked. -/
import Derived.Test.YtiohpbhdonlonaaM1
import Derived.Test.YtiohpbhdonlonaaMMono
namespace Go.VC.T
open Go Go.VC Go.Proofs Go.VC.F
set_option linter.unusedSimpArgs false
set_option linter.unusedVariables false
set_option linter.defProp false
set_option maxRecDepth 100000
set_option maxHeartbeats 2000000
def fc23 := (And.intro (And.intro (And.intro (And.intro sz3 ag3) (And.intro zv3 un3)) (And.intro (And.intro sz22 ag22) (And.intro zv22 sb22))) (And.intro (And.intro (And.intro un22 el22) (And.intro ap22 sz24)) (And.intro (And.intro ag24 zv24) (And.intro fl24_0 (And.intro pl24 okf96)))))
theorem markPoly_w (t : List Mono) (k : Int) (hk : 0 ≤ k ∧ k + (cnL (t.flatMap eMono) : Int) ≤ 2^60) : FnS Try.prog 23 [(1, .row t.length (t.flatMap eMono))] [.ag [.os 1 t.length], iT k] [(1, .row t.length (mkL mT (k) (t.flatMap eMono)))] (iT (k + (cnL (t.flatMap eMono) : Int))) := by
  refine FnS.go [0, 1, 2, 4] [] Try.func23 rfl (fun kt kz => ?_)
  have fcx := fc23
  simp only [Try.f23]
  refine Run (cast_succ) ?_; repeat' (first | (with_reducible exact True.intro) | (with_reducible refine Lf.mk ?_ ?_) | (with_reducible intro hb))
  refine CalO (cast_succ) (markMonoS_q t (k) ⟨by omega, by omega⟩ 1) ?_
  refine Run (cast_succ) ?_; repeat' (first | (with_reducible exact True.intro) | (with_reducible refine Lf.mk ?_ ?_) | (with_reducible intro hb))

theorem markPoly_q (t : List Mono) (k : Int) (hk : 0 ≤ k ∧ k + (cnL (t.flatMap eMono) : Int) ≤ 2^60) (q0 : Nat) (hq : [q0].Nodup) : FnS Try.prog 23 [(q0, .row t.length (t.flatMap eMono))] [.ag [.os q0 t.length], iT k] [(q0, .row t.length (mkL mT (k) (t.flatMap eMono)))] (iT (k + (cnL (t.flatMap eMono) : Int))) := by
  obtain ⟨p, hp⟩ := pml [1] [q0] (by decide) hq rfl
  simp only [List.map_cons, List.map_nil, List.cons.injEq, and_true] at hp
  refine ((markPoly_w t k hk).renA p).asA ?_ ?_ ?_ ?_ <;> simp [renS, Ob.ren, TV.ren, renL, Cell.ren, hp]
def hPoly (k : Int) (t : List Mono) : List IV := [.sl t.length (mkL mT (k) (t.flatMap eMono))]
def fc24 := (And.intro (And.intro (And.intro (And.intro sz3 ag3) (And.intro zv3 (And.intro un3 sz4))) (And.intro (And.intro ag4 zv4) (And.intro un4 (And.intro sz22 ag22)))) (And.intro (And.intro (And.intro zv22 sb22) (And.intro un22 (And.intro el22 ap22))) (And.intro (And.intro sz24 (And.intro ag24 zv24)) (And.intro fl24_0 (And.intro pl24 okf97)))))
theorem heldPoly_ok (t : List Mono) (k : Int) (hk : 0 ≤ k ∧ k + (cnL (t.flatMap eMono) : Int) ≤ 2^60) : FnS Try.prog 24 [] [agT (hPoly k t), iT k] [] (iT (k + (cnL (t.flatMap eMono) : Int))) := by
  refine FnS.go [0, 1, 2, 4, 10] [] Try.func24 rfl (fun kt kz => ?_)
  have fcx := fc24
  simp only [Try.f24]
  refine Run (@hPoly.eq_1) ?_; repeat' (first | (with_reducible exact True.intro) | (with_reducible refine Lf.mk ?_ ?_) | (with_reducible intro hb))
  refine Cal (@hPoly.eq_1) (heldMonoS_ok t (k) ⟨by omega, by omega⟩) ?_
  have hn1 : ((k + (cnL (t.flatMap eMono) : Int)) < 0) = False := eq_false (by omega)
  refine Run ((And.intro @hPoly.eq_1 @hn1)) ?_; repeat' (first | (with_reducible exact True.intro) | (with_reducible refine Lf.mk ?_ ?_) | (with_reducible intro hb))


end Go.VC.T
