/- Data (Term): how they are measured, copied and compared. -/
import Derived.Test.YtgljcadheoijfaaGreatG6L27
import Derived.Test.YtgljcadheoijfaaGreatG4WL27
set_option linter.unusedSimpArgs false
set_option linter.unusedVariables false
set_option linter.defProp false
set_option maxRecDepth 100000
set_option maxHeartbeats 2000000
namespace Go.VC.T
open Go Go.VC Go.Proofs Go.VC.F
def fc21STerm := (ai (ai (ai (ai (ai sz3 ag3) (ai zv3 (ai un3 sz4))) (ai (ai ag4 (ai zv4 un4)) (ai sz9 (ai ag9 zv9)))) (ai (ai (ai un9 (ai sz25 ag25)) (ai zv25 (ai sb25 un25))) (ai (ai el25 (ai ap25 sz28)) (ai ag28 (ai zv28 fl28_0))))) (ai (ai (ai (ai fl28_1 (ai fl28_2 pl28)) (ai sz29 (ai ag29 zv29))) (ai (ai sb29 (ai un29 el29)) (ai ap29 (ai sz31 ag31)))) (ai (ai (ai zv31 (ai fl31_0 fl31_1)) (ai fl31_2 (ai fl31_3 fl31_4))) (ai (ai fl31_5 (ai pl31 okf22)) (ai okf59 (ai okf60 sz26))))))
theorem szTerm_of (t : Tm) (h : okTm (2^48) t) (H0 : ∀ left : Int, 0 ≤ left ∧ left ≤ 2^20 → FnP Tryz.prog 60 [slT eTm t.args, iT left] (iT (szR (zL zTm t.args) left))) (left : Int) (hl : 0 ≤ left ∧ left ≤ 2^20) : FnS Tryz.prog 21 [] [agT (eTm t), iT left] [] (iT (szR (zTm t) left)) := by
  refine FnS.go [0, 1, 2, 4, 11, 17, 23, 29] [] Tryz.func21 rfl (fun kt kz => ?_)
  have fcx := fc21STerm
  simp only [Tryz.f21]
  have ho := okTm_iff.1 h
  have hs1 : t.name.size = zS t.name := rfl
  have hw1 : zS t.name ≤ 2^48 := ho.2.1
  refine Run ((ai (ai @eTm_eta @eTy_eta) (ai @hs1 @szR_add))) ?_; with_reducible repeat' (first | exact True.intro | refine Lf.mk ?_ ?_ | intro hb)
  · congr 4; have s2 := szR_spec (zTm t) left; rw [zTm_eta] at s2 ⊢; omega
  · skip
    have e : left - (zS t.name : Int) = szR (zS t.name) left := by have s3 := szR_spec (zS t.name) left; omega
    rw [e] at hb ⊢
    refine Cal ((ai (ai @eTm_eta @eTy_eta) (ai @hs1 @szR_add))) (szType_ok _ ho.2.2.2.1 _ ⟨(by assumption), by have := szR_le (n := zS t.name) hl.1; omega⟩) ?_
    have hz := szR_le (n := zS t.name + zTy t.ty) hl.1
    refine Run ((ai (ai @eTm_eta @eTy_eta) (ai @hs1 @szR_add))) ?_; with_reducible repeat' (first | exact True.intro | refine Lf.mk ?_ ?_ | intro hb)
    · congr 4; have s1 := szR_spec (zS t.name + zTy t.ty) left; have s2 := szR_spec (zTm t) left; rw [zTm_eta] at s2 ⊢; omega
    · skip
      refine Cal ((ai (ai @eTm_eta @eTy_eta) (ai @hs1 @szR_add))) (szStringS_ok _ ho.2.2.2.2.1 _ ⟨(by assumption), by have := szR_le (n := zS t.name + zTy t.ty) hl.1; omega⟩) ?_
      have hz := szR_le (n := zS t.name + zTy t.ty + zSL t.labels) hl.1
      refine Run ((ai (ai @eTm_eta @eTy_eta) (ai @hs1 @szR_add))) ?_; with_reducible repeat' (first | exact True.intro | refine Lf.mk ?_ ?_ | intro hb)
      · congr 4; have s1 := szR_spec (zS t.name + zTy t.ty + zSL t.labels) left; have s2 := szR_spec (zTm t) left; rw [zTm_eta] at s2 ⊢; omega
      · skip
        refine Cal ((ai (ai @eTm_eta @eTy_eta) (ai @hs1 @szR_add))) (H0 _ ⟨(by assumption), by have := szR_le (n := zS t.name + zTy t.ty + zSL t.labels) hl.1; omega⟩) ?_
        have hz := szR_le (n := zS t.name + zTy t.ty + zSL t.labels + zL zTm t.args) hl.1
        refine Run ((ai (ai @eTm_eta @eTy_eta) (ai @hs1 @szR_add))) ?_; with_reducible repeat' (first | exact True.intro | refine Lf.mk ?_ ?_ | intro hb)
        · congr 4; have s1 := szR_spec (zS t.name + zTy t.ty + zSL t.labels + zL zTm t.args) left; have s2 := szR_spec (zTm t) left; rw [zTm_eta] at s2 ⊢; omega
        · skip
          rw [zTm_eta]
def fc60STerm := (ai (ai (ai (ai sz3 (ai ag3 zv3)) (ai (ai un3 sz4) (ai ag4 zv4))) (ai (ai un4 (ai sz29 ag29)) (ai (ai zv29 sb29) (ai un29 el29)))) (ai (ai (ai ap29 (ai sz31 ag31)) (ai (ai zv31 fl31_0) (ai fl31_1 fl31_2))) (ai (ai (ai fl31_3 fl31_4) (ai fl31_5 pl31)) (ai (ai okf21 sz9) (ai sz28 sz25)))))
theorem szTermS_of (xs : List Tm) (hx : okLs (2^48) okTm xs) (H : ∀ t ∈ xs, ∀ left : Int, 0 ≤ left ∧ left ≤ 2^20 → FnP Tryz.prog 21 [agT (eTm t), iT left] (iT (szR (zTm t) left))) (left : Int) (hl : 0 ≤ left ∧ left ≤ 2^20) : FnS Tryz.prog 60 [] [slT eTm xs, iT left] [] (iT (szR (zL zTm xs) left)) := by
  refine FnS.go [0, 1, 4, 5, 11, 15, 25] [] Tryz.func60 rfl (fun kt kz => ?_)
  have fcx := fc60STerm
  simp only [Tryz.f60]
  have hx1 := hx.1
  refine Run (cast_succ) ?_; with_reducible repeat' (first | exact True.intro | refine Lf.mk ?_ ?_ | intro hb)
  · simp only [szR_nil hb zL_len]
  · rw [szR_sub hb]
    have hb2 := szR_sub hb ▸ hb
    refine Trn (α := Nat) [1, 4, 5, 12, 13, 14, 15, 16, 17, 18, 19, 20, 21, 22, 23, 24, 25] (fun i => [(5, iT i), (1, iT (szR (zT zTm xs i) left))]) (fun i => []) (fun i => i ≤ xs.length ∧ 0 ≤ szR (zT zTm xs i) left) (fun i => xs.length - i) (0) (⟨Nat.zero_le _, by rw [zT_zero]; exact hb2⟩) ((zT_zero (z := zTm) (l := xs))) ?_; intro lx hI; obtain i := lx; (try simp only [List.nil_append, List.cons_append] at hI ⊢)
    have hz := szR_le (n := zT zTm xs lx) hl.1
    by_cases hlt : lx < xs.length
    · have e : szR (zTm xs[lx]) (szR (zT zTm xs lx) left) = szR (zT zTm xs (lx + 1)) left := by rw [zT_succ hlt, ← szR_add]
      refine Run ((ai @eTm_eta @eTy_eta)) ?_; with_reducible repeat' (first | exact True.intro | refine Lf.mk ?_ ?_ | intro hb)
      · refine Cal ((ai @eTm_eta @eTy_eta)) (H _ (List.getElem_mem hlt) _ ⟨hI.2, by omega⟩) ?_
        refine Run (cast_succ) ?_; with_reducible repeat' (first | exact True.intro | refine Lf.mk ?_ ?_ | intro hb)
        · rw [e] at hb
          rw [szR_neg hb zT_le]
        · rw [e] at hb
          exact Nxt (@e) (lx + 1) (⟨by omega, hb⟩) (by first | omega | (simp; omega))
      · omega
    · refine Run (cast_succ) ?_; with_reducible repeat' (first | exact True.intro | refine Lf.mk ?_ ?_ | intro hb)
      · omega
      · rw [zT_all (by omega)]

theorem szTerm_ok (t : Tm) (h : okTm (2^48) t) (left : Int) (hl : 0 ≤ left ∧ left ≤ 2^20) : FnP Tryz.prog 21 [agT (eTm t), iT left] (iT (szR (zTm t) left)) := szTerm_of t h (fun left hl => szTermS_of t.args ((okTm_iff.1 h).2.2.2.2.2) (fun u hu left hl => szTerm_ok u (((okTm_iff.1 h).2.2.2.2.2).2 u hu) left hl) left hl) left hl
termination_by SizeOf.sizeOf t
decreasing_by all_goals first | exact Ty.mem hu | exact Val.mem hu | exact Tm.mem hu | exact Pl.mem hu | exact Hd.memP hu | exact Hd.memQ hu | exact Cmp.memH _
def fc32STerm := (ai (ai (ai (ai (ai (ai sz3 ag3) (ai zv3 un3)) (ai (ai sz9 ag9) (ai zv9 un9))) (ai (ai (ai sz25 ag25) (ai zv25 sb25)) (ai (ai un25 el25) (ai ap25 (ai sz28 ag28))))) (ai (ai (ai (ai zv28 fl28_0) (ai fl28_1 fl28_2)) (ai (ai pl28 sz29) (ai ag29 zv29))) (ai (ai (ai sb29 un29) (ai el29 ap29)) (ai (ai sz31 ag31) (ai zv31 (ai fl31_0 fl31_1)))))) (ai (ai (ai (ai (ai fl31_2 fl31_3) (ai fl31_4 fl31_5)) (ai (ai pl31 sz43) (ai ag43 zv43))) (ai (ai (ai fl43_0 fl43_1) (ai fl43_2 pl43)) (ai (ai sz44 ag44) (ai zv44 (ai sb44 un44))))) (ai (ai (ai (ai el44 ap44) (ai sz46 ag46)) (ai (ai zv46 fl46_0) (ai fl46_1 fl46_2))) (ai (ai (ai fl46_3 fl46_4) (ai fl46_5 pl46)) (ai (ai okf33 okf70) (ai okf71 (ai sz26 sz41)))))))
theorem toTerm_w (t : Tm) (h : okTm (2^20) t) (H0 : ∀ q : Nat, FnS Tryz.prog 71 [] [slT eTm t.args] [(q, .row t.args.length (t.args.flatMap eTm))] (.c (.os q t.args.length))) : FnS Tryz.prog 32 [] [agT (eTm t)] [(1000, .row t.ty.labels.length (t.ty.labels.flatMap eS)), (1002, .row t.ty.args.length (t.ty.args.flatMap eTy)), (1004, .row t.labels.length (t.labels.flatMap eS)), (1006, .row t.args.length (t.args.flatMap eTm))] (.ag [.im (.sc (.int .i64 t.kind)), .im (.sc (.string t.name)), .im (.sc (.int .i64 t.n)), .im (.sc (.int .i64 t.ty.kind)), .os 1000 t.ty.labels.length, .os 1002 t.ty.args.length, .os 1004 t.labels.length, .os 1006 t.args.length]) := by
  refine FnS.go [0, 1, 2, 3] [] Tryz.func32 rfl (fun kt kz => ?_)
  have fcx := fc32STerm
  simp only [Tryz.f32]
  have ho := okTm_iff.1 h
  refine Run ((ai @eTm_eta @eTy_eta)) ?_; with_reducible repeat' (first | exact True.intro | refine Lf.mk ?_ ?_ | intro hb)
  refine CalI ((ai @eTm_eta @eTy_eta)) (toType_o _ ho.2.2.2.1 1000 1002 (by decide)) ?_
  refine Run ((ai @eTm_eta @eTy_eta)) ?_; with_reducible repeat' (first | exact True.intro | refine Lf.mk ?_ ?_ | intro hb)
  refine CalI ((ai @eTm_eta @eTy_eta)) (toStringS_o _ ho.2.2.2.2.1 1004) ?_
  refine Run ((ai @eTm_eta @eTy_eta)) ?_; with_reducible repeat' (first | exact True.intro | refine Lf.mk ?_ ?_ | intro hb)
  refine CalI ((ai @eTm_eta @eTy_eta)) (H0 1006) ?_
  refine Run ((ai @eTm_eta @eTy_eta)) ?_; with_reducible repeat' (first | exact True.intro | refine Lf.mk ?_ ?_ | intro hb)

theorem toTerm_q (t : Tm) (h : okTm (2^20) t) (H0 : ∀ q : Nat, FnS Tryz.prog 71 [] [slT eTm t.args] [(q, .row t.args.length (t.args.flatMap eTm))] (.c (.os q t.args.length))) : ∀ q0 q1 q2 q3 : Nat, [q0, q1, q2, q3].Nodup → FnS Tryz.prog 32 [] [agT (eTm t)] [(q0, .row t.ty.labels.length (t.ty.labels.flatMap eS)), (q1, .row t.ty.args.length (t.ty.args.flatMap eTy)), (q2, .row t.labels.length (t.labels.flatMap eS)), (q3, .row t.args.length (t.args.flatMap eTm))] (.ag [.im (.sc (.int .i64 t.kind)), .im (.sc (.string t.name)), .im (.sc (.int .i64 t.n)), .im (.sc (.int .i64 t.ty.kind)), .os q0 t.ty.labels.length, .os q1 t.ty.args.length, .os q2 t.labels.length, .os q3 t.args.length]) := by
  intro q0 q1 q2 q3 hq
  obtain ⟨p, hp⟩ := pml [1000, 1002, 1004, 1006] [q0, q1, q2, q3] (by decide) hq rfl
  simp only [List.map_cons, List.map_nil, List.cons.injEq, and_true] at hp
  refine ((toTerm_w t h H0).rows.pm p).as ?_ ?_ <;> simp [rowS, rowO, renS, Ob.ren, TV.ren, renL, Cell.ren, hp]
def fc71STerm := (ai (ai (ai (ai (ai sz3 ag3) (ai zv3 (ai un3 sz4))) (ai (ai ag4 (ai zv4 un4)) (ai sz29 (ai ag29 zv29)))) (ai (ai (ai sb29 (ai un29 el29)) (ai ap29 (ai sz31 ag31))) (ai (ai zv31 (ai fl31_0 fl31_1)) (ai fl31_2 (ai fl31_3 fl31_4))))) (ai (ai (ai (ai fl31_5 (ai pl31 sz44)) (ai ag44 (ai zv44 sb44))) (ai (ai un44 (ai el44 ap44)) (ai sz46 (ai ag46 zv46)))) (ai (ai (ai fl46_0 (ai fl46_1 fl46_2)) (ai fl46_3 (ai fl46_4 fl46_5))) (ai (ai pl46 (ai okf32 sz9)) (ai sz28 (ai sz25 sz43))))))
theorem toTermS_w (xs : List Tm) (hx : okLs (2^20) okTm xs) (H : ∀ t ∈ xs, ∀ q0 q1 q2 q3 : Nat, [q0, q1, q2, q3].Nodup → FnS Tryz.prog 32 [] [agT (eTm t)] [(q0, .row t.ty.labels.length (t.ty.labels.flatMap eS)), (q1, .row t.ty.args.length (t.ty.args.flatMap eTy)), (q2, .row t.labels.length (t.labels.flatMap eS)), (q3, .row t.args.length (t.args.flatMap eTm))] (.ag [.im (.sc (.int .i64 t.kind)), .im (.sc (.string t.name)), .im (.sc (.int .i64 t.n)), .im (.sc (.int .i64 t.ty.kind)), .os q0 t.ty.labels.length, .os q1 t.ty.args.length, .os q2 t.labels.length, .os q3 t.args.length])) : FnS Tryz.prog 71 [] [slT eTm xs] [(14, .vec 46 8 xs.length (xs.flatMap eTm) true)] (.c (.os 14 xs.length)) := by
  refine FnS.go [0, 2, 3, 4, 11] [] Tryz.func71 rfl (fun kt kz => ?_)
  have fcx := fc71STerm
  simp only [Tryz.f71]
  have hx1 := hx.1
  refine Run (cast_succ) ?_; with_reducible repeat' (first | exact True.intro | refine Lf.mk ?_ ?_ | intro hb)
  refine Trn (α := Nat) [4, 8, 9, 10, 11, 12, 13, 14, 15, 16, 17, 18, 19, 20, 21] (fun i => [(4, iT i), (3, .c (.os 14 xs.length))]) (fun i => [(14, .vec 46 8 xs.length (filled eTm [.sc (.int .i64 0), .sc (.string ⟨#[]⟩), .sc (.int .i64 0), .sc (.int .i64 0), .sl 0 [], .sl 0 [], .sl 0 [], .sl 0 []] xs i) true)]) (fun i => i ≤ xs.length) (fun i => xs.length - i) (0) (Nat.zero_le _) (cast_succ) ?_; intro lx hI; obtain i := lx; (try simp only [List.nil_append, List.cons_append] at hI ⊢)
  refine Run ((ai @eTm_eta @eTy_eta)) ?_; with_reducible repeat' (first | exact True.intro | refine Lf.mk ?_ ?_ | intro hb)
  · refine CalI ((ai @eTm_eta @eTy_eta)) (H _ (List.getElem_mem hb) 1000 1002 1004 1006 (by decide)) ?_
    refine Run ((ai @eTm_eta @eTy_eta)) ?_; with_reducible repeat' (first | exact True.intro | refine Lf.mk ?_ ?_ | intro hb)
    have hs := filled_step' (E := eTm) (zs := [.sc (.int .i64 0), .sc (.string ⟨#[]⟩), .sc (.int .i64 0), .sc (.int .i64 0), .sl 0 [], .sl 0 [], .sl 0 [], .sl 0 []]) hb
    simp only [eTm_eta, eTy_eta, setL_st, stL_one, slI] at hs
    exact Nxt (@hs) (lx + 1) (by omega) (by first | omega | (simp; omega))

theorem toTermS_q (xs : List Tm) (hx : okLs (2^20) okTm xs) (H : ∀ t ∈ xs, ∀ q0 q1 q2 q3 : Nat, [q0, q1, q2, q3].Nodup → FnS Tryz.prog 32 [] [agT (eTm t)] [(q0, .row t.ty.labels.length (t.ty.labels.flatMap eS)), (q1, .row t.ty.args.length (t.ty.args.flatMap eTy)), (q2, .row t.labels.length (t.labels.flatMap eS)), (q3, .row t.args.length (t.args.flatMap eTm))] (.ag [.im (.sc (.int .i64 t.kind)), .im (.sc (.string t.name)), .im (.sc (.int .i64 t.n)), .im (.sc (.int .i64 t.ty.kind)), .os q0 t.ty.labels.length, .os q1 t.ty.args.length, .os q2 t.labels.length, .os q3 t.args.length])) (q : Nat) : FnS Tryz.prog 71 [] [slT eTm xs] [(q, .row xs.length (xs.flatMap eTm))] (.c (.os q xs.length)) := by
  obtain ⟨p, hp⟩ := pm1 14 q
  refine ((toTermS_w xs hx H).rows.pm p).as ?_ ?_ <;> simp [rowS, rowO, renS, Ob.ren, TV.ren, Cell.ren, hp]

theorem toTerm_o (t : Tm) (h : okTm (2^20) t) : ∀ q0 q1 q2 q3 : Nat, [q0, q1, q2, q3].Nodup → FnS Tryz.prog 32 [] [agT (eTm t)] [(q0, .row t.ty.labels.length (t.ty.labels.flatMap eS)), (q1, .row t.ty.args.length (t.ty.args.flatMap eTy)), (q2, .row t.labels.length (t.labels.flatMap eS)), (q3, .row t.args.length (t.args.flatMap eTm))] (.ag [.im (.sc (.int .i64 t.kind)), .im (.sc (.string t.name)), .im (.sc (.int .i64 t.n)), .im (.sc (.int .i64 t.ty.kind)), .os q0 t.ty.labels.length, .os q1 t.ty.args.length, .os q2 t.labels.length, .os q3 t.args.length]) := toTerm_q t h (fun q => toTermS_q t.args ((okTm_iff.1 h).2.2.2.2.2) (fun u hu => toTerm_o u (((okTm_iff.1 h).2.2.2.2.2).2 u hu)) q)
termination_by SizeOf.sizeOf t
decreasing_by all_goals first | exact Ty.mem hu | exact Val.mem hu | exact Tm.mem hu | exact Pl.mem hu | exact Hd.memP hu | exact Hd.memQ hu | exact Cmp.memH _
def fc44STerm := (ai (ai (ai (ai (ai sz3 ag3) (ai zv3 (ai un3 sz4))) (ai (ai ag4 (ai zv4 un4)) (ai sz9 (ai ag9 zv9)))) (ai (ai (ai un9 (ai sz25 ag25)) (ai zv25 (ai sb25 un25))) (ai (ai el25 (ai ap25 sz43)) (ai ag43 (ai zv43 fl43_0))))) (ai (ai (ai (ai fl43_1 (ai fl43_2 pl43)) (ai sz44 (ai ag44 zv44))) (ai (ai sb44 (ai un44 el44)) (ai ap44 (ai sz46 ag46)))) (ai (ai (ai zv46 (ai fl46_0 fl46_1)) (ai fl46_2 (ai fl46_3 fl46_4))) (ai (ai fl46_5 (ai pl46 okf15)) (ai okf45 (ai okf79 sz41))))))
theorem eqTerm_of (t : Tm) (h : okTm (2^20) t) (H0 : FnP Tryz.prog 79 [slT eTm t.args, slT eTm t.args] (bT true)) : FnS Tryz.prog 44 [] [agT (eTm t), agT (eTm t)] [] (bT true) := by
  refine FnS.go [0, 1, 2, 3, 4, 9, 14, 19, 25, 31, 37] [] Tryz.func44 rfl (fun kt kz => ?_)
  have fcx := fc44STerm
  simp only [Tryz.f44]
  have ho := okTm_iff.1 h
  refine Run ((ai @eTm_eta @eTy_eta)) ?_; with_reducible repeat' (first | exact True.intro | refine Lf.mk ?_ ?_ | intro hb)
  refine Cal ((ai @eTm_eta @eTy_eta)) (eqType_ok _ ho.2.2.2.1) ?_
  refine Run ((ai @eTm_eta @eTy_eta)) ?_; with_reducible repeat' (first | exact True.intro | refine Lf.mk ?_ ?_ | intro hb)
  refine Cal ((ai @eTm_eta @eTy_eta)) (eqStringS_rf _ ho.2.2.2.2.1) ?_
  refine Run ((ai @eTm_eta @eTy_eta)) ?_; with_reducible repeat' (first | exact True.intro | refine Lf.mk ?_ ?_ | intro hb)
  refine Cal ((ai @eTm_eta @eTy_eta)) (H0) ?_
  refine Run ((ai @eTm_eta @eTy_eta)) ?_; with_reducible repeat' (first | exact True.intro | refine Lf.mk ?_ ?_ | intro hb)
def fc79STerm := (ai (ai (ai (ai sz3 (ai ag3 zv3)) (ai (ai un3 sz4) (ai ag4 zv4))) (ai (ai un4 (ai sz44 ag44)) (ai (ai zv44 sb44) (ai un44 el44)))) (ai (ai (ai ap44 (ai sz46 ag46)) (ai (ai zv46 fl46_0) (ai fl46_1 fl46_2))) (ai (ai (ai fl46_3 fl46_4) (ai fl46_5 pl46)) (ai (ai okf44 sz9) (ai sz43 sz25)))))
theorem eqTermS_of (xs : List Tm) (hx : okLs (2^20) okTm xs) (H : ∀ t ∈ xs, FnP Tryz.prog 44 [agT (eTm t), agT (eTm t)] (bT true)) : FnS Tryz.prog 79 [] [slT eTm xs, slT eTm xs] [] (bT true) := by
  refine FnS.go [0, 1, 4, 5, 10, 14, 26] [] Tryz.func79 rfl (fun kt kz => ?_)
  have fcx := fc79STerm
  simp only [Tryz.f79]
  have hx1 := hx.1
  refine Run (cast_succ) ?_; with_reducible repeat' (first | exact True.intro | refine Lf.mk ?_ ?_ | intro hb)
  refine Trn (α := Nat) [4, 5, 11, 12, 13, 14, 15, 16, 17, 18, 19, 20, 21, 22, 23, 24, 25, 26] (fun i => [(5, iT i)]) (fun i => []) (fun i => i ≤ xs.length) (fun i => xs.length - i) (0) (Nat.zero_le _) (cast_succ) ?_; intro lx hI; obtain i := lx; (try simp only [List.nil_append, List.cons_append] at hI ⊢)
  refine Run ((ai @eTm_eta @eTy_eta)) ?_; with_reducible repeat' (first | exact True.intro | refine Lf.mk ?_ ?_ | intro hb)
  · refine Cal ((ai @eTm_eta @eTy_eta)) (H _ (List.getElem_mem hb)) ?_
    refine Run ((ai @eTm_eta @eTy_eta)) ?_; with_reducible repeat' (first | exact True.intro | refine Lf.mk ?_ ?_ | intro hb)
    exact Nxt (cast_succ) (lx + 1) (by omega) (by first | omega | (simp; omega))

theorem eqTerm_ok (t : Tm) (h : okTm (2^20) t) : FnP Tryz.prog 44 [agT (eTm t), agT (eTm t)] (bT true) := eqTerm_of t h (eqTermS_of t.args ((okTm_iff.1 h).2.2.2.2.2) (fun u hu => eqTerm_ok u (((okTm_iff.1 h).2.2.2.2.2).2 u hu)))
termination_by SizeOf.sizeOf t
decreasing_by all_goals first | exact Ty.mem hu | exact Val.mem hu | exact Tm.mem hu | exact Pl.mem hu | exact Hd.memP hu | exact Hd.memQ hu | exact Cmp.memH _
end Go.VC.T
/- Conjuncts of a condition. -/
namespace Go.VC.T
open Go Go.VC Go.Proofs Go.VC.F

end Go.VC.T
/- Copies of types and terms. -/
namespace Go.VC.T
open Go Go.VC Go.Proofs Go.VC.F
def fc61A33 := (ai (ai (ai (ai sz3 (ai ag3 zv3)) (ai (ai un3 sz4) (ai ag4 zv4))) (ai (ai (ai un4 sz25) (ai ag25 zv25)) (ai (ai sb25 un25) (ai el25 ap25)))) (ai (ai (ai sz41 (ai ag41 zv41)) (ai (ai sb41 un41) (ai el41 ap41))) (ai (ai (ai sz43 ag43) (ai zv43 fl43_0)) (ai (ai fl43_1 fl43_2) (ai pl43 okf61)))))
theorem l3Copy_of (v : Ty) (hv : okTy (2^20) v) (H : ∀ u ∈ v.args, FnP Tryz.prog 61 [agT (eTy u)] (agT (eTy u))) : FnS Tryz.prog 61 [] [agT (eTy v)] [] (agT (eTy v)) := by
  refine FnS.go [0, 1, 2, 3, 4, 16] [1000] Tryz.func61 rfl (fun kt kz => ?_)
  have fcx := fc61A33
  simp only [Tryz.f61]
  have dx : Dx 8 7 3 := ⟨⟩
  have ho := okTy_iff.1 hv
  have hl1 := ho.2.1.1
  have hl := ho.2.2.1
  refine RunX (@eTy_eta) ?_; with_reducible repeat' (first | exact True.intro | refine Lf.mk ?_ ?_ | intro hb)
  refine Sm.nlB (6) 2 (1000) (43) 3 false (by rfl) (by rfl) (by rfl) (by decide) (by rfl) (by rfl) (by decide) (by rfl) ?_; simp only [upd, List.set_cons_zero, List.set_cons_succ, ↓reduceIte, Nat.reduceEqDiff]
  refine Trn (α := Nat) [4, 12, 13, 14, 15, 16, 17, 18, 19, 20, 21, 22, 23, 24, 25, 26, 27, 28, 29] (fun i => [(4, iT i)]) (fun i => [(2, .box 43 ((eTy v).map .im)), (4, .box 43 [.im (.sc (.int .i64 0)), .nl, .nl]), (6, .box 43 [.im (.sc (.int .i64 v.kind)), .im (.sl v.labels.length (v.labels.flatMap eS)), .os 1000 i]), (1000, .vec 43 3 i ((v.args.take i).flatMap eTy) false)]) (fun i => i ≤ v.args.length) (fun i => v.args.length - i) (0) (Nat.zero_le _) (@eTy_eta) ?_; intro lx hI; obtain i := lx; (try simp only [List.nil_append, List.cons_append] at hI ⊢)
  by_cases hlt : lx < v.args.length
  · have e1 : (v.args.take lx).flatMap eTy ++ eTy v.args[lx] = (v.args.take (lx + 1)).flatMap eTy := by rw [take_at hlt, List.flatMap_append, flat_one]
    rw [eTy_eta v.args[lx]] at e1
    simp only [slI] at e1
    refine Run ((ai @eTy_eta @hlt)) ?_; with_reducible repeat' (first | exact True.intro | refine Lf.mk ?_ ?_ | intro hb)
    refine CalI (@eTy_eta) (H _ (List.getElem_mem hlt)) ?_
    refine Run ((ai @eTy_eta @hlt)) ?_; with_reducible repeat' (first | exact True.intro | refine Lf.mk ?_ ?_ | intro hb)
    exact Nxt ((ai @eTy_eta @e1)) (lx + 1) (hlt) (by first | omega | (simp; omega))
  · obtain rfl : lx = v.args.length := by omega
    have e1 : (v.args.take v.args.length).flatMap eTy = v.args.flatMap eTy := by rw [List.take_length]
    refine Run ((ai @eTy_eta (ai @hlt @e1))) ?_; with_reducible repeat' (first | exact True.intro | refine Lf.mk ?_ ?_ | intro hb)

theorem l3Copy_ok (v : Ty) (hv : okTy (2^20) v) : FnP Tryz.prog 61 [agT (eTy v)] (agT (eTy v)) :=
  l3Copy_of v hv fun u hu => l3Copy_ok u ((okTy_iff.1 hv).2.2.2 u hu)
termination_by SizeOf.sizeOf v
decreasing_by exact Ty.mem hu

end Go.VC.T
/- Small functions of the reference: arities, rows, fields, contexts. -/
namespace Go.VC.T
open Go Go.VC Go.Proofs Go.VC.F
def fc104A92 := (ai (ai (ai sz3 (ai ag3 zv3)) (ai un3 (ai sz4 ag4))) (ai (ai zv4 (ai un4 sz9)) (ai ag9 (ai zv9 un9))))
theorem specArity_ok (s : ByteArray) : FnS Tryz.prog 104 [] [sT s] [] (iT (opAr s : Int)) := by
  refine FnS.go [0, 2, 3, 4, 11] [] Tryz.func104 rfl (fun kt kz => ?_)
  have fcx := fc104A92
  simp only [Tryz.f104]
  by_cases h43 : s = ⟨#[43]⟩
  · have e : ((opAr s : Nat) : Int) = 2 := by simp [opAr, h43, opPlus, opMinus, opEq, opLt, opAnd, opOr]
    have g43 := eq_true h43
    refine Run ((ai @g43 @e)) ?_; with_reducible repeat' (first | exact True.intro | refine Lf.mk ?_ ?_ | intro hb)
  · have g43 := eq_false h43
    by_cases h45 : s = ⟨#[45]⟩
    · have e : ((opAr s : Nat) : Int) = 2 := by simp [opAr, h45, opPlus, opMinus, opEq, opLt, opAnd, opOr]
      have g45 := eq_true h45
      refine Run ((ai @g43 (ai @g45 @e))) ?_; with_reducible repeat' (first | exact True.intro | refine Lf.mk ?_ ?_ | intro hb)
    · have g45 := eq_false h45
      by_cases h61 : s = ⟨#[61]⟩
      · have e : ((opAr s : Nat) : Int) = 2 := by simp [opAr, h61, opPlus, opMinus, opEq, opLt, opAnd, opOr]
        have g61 := eq_true h61
        refine Run ((ai (ai @g43 @g45) (ai @g61 @e))) ?_; with_reducible repeat' (first | exact True.intro | refine Lf.mk ?_ ?_ | intro hb)
      · have g61 := eq_false h61
        by_cases h60 : s = ⟨#[60]⟩
        · have e : ((opAr s : Nat) : Int) = 2 := by simp [opAr, h60, opPlus, opMinus, opEq, opLt, opAnd, opOr]
          have g60 := eq_true h60
          refine Run ((ai (ai @g43 @g45) (ai @g61 (ai @g60 @e)))) ?_; with_reducible repeat' (first | exact True.intro | refine Lf.mk ?_ ?_ | intro hb)
        · have g60 := eq_false h60
          by_cases h38 : s = ⟨#[38]⟩
          · have e : ((opAr s : Nat) : Int) = 2 := by simp [opAr, h38, opPlus, opMinus, opEq, opLt, opAnd, opOr]
            have g38 := eq_true h38
            refine Run ((ai (ai @g43 (ai @g45 @g61)) (ai @g60 (ai @g38 @e)))) ?_; with_reducible repeat' (first | exact True.intro | refine Lf.mk ?_ ?_ | intro hb)
          · have g38 := eq_false h38
            by_cases h124 : s = ⟨#[124]⟩
            · have e : ((opAr s : Nat) : Int) = 2 := by simp [opAr, h124, opPlus, opMinus, opEq, opLt, opAnd, opOr]
              have g124 := eq_true h124
              refine Run ((ai (ai @g43 (ai @g45 @g61)) (ai (ai @g60 @g38) (ai @g124 @e)))) ?_; with_reducible repeat' (first | exact True.intro | refine Lf.mk ?_ ?_ | intro hb)
            · have g124 := eq_false h124
              by_cases h33 : s = ⟨#[33]⟩
              · have e : ((opAr s : Nat) : Int) = 1 := by simp [opAr, g43, g45, g61, g60, g38, g124, h33, opPlus, opMinus, opEq, opLt, opAnd, opOr, opNot]
                have g33 := eq_true h33
                refine Run ((ai (ai (ai @g43 @g45) (ai @g61 @g60)) (ai (ai @g38 @g124) (ai @g33 @e)))) ?_; with_reducible repeat' (first | exact True.intro | refine Lf.mk ?_ ?_ | intro hb)
              · have g33 := eq_false h33
                have e : ((opAr s : Nat) : Int) = 0 := by simp [opAr, g43, g45, g61, g60, g38, g124, g33, opPlus, opMinus, opEq, opLt, opAnd, opOr, opNot]
                refine Run ((ai (ai (ai @g43 @g45) (ai @g61 @g60)) (ai (ai @g38 @g124) (ai @g33 @e)))) ?_; with_reducible repeat' (first | exact True.intro | refine Lf.mk ?_ ?_ | intro hb)
def fc47A92 := (ai (ai (ai (ai sz3 (ai ag3 zv3)) (ai (ai un3 sz4) (ai ag4 zv4))) (ai (ai (ai un4 sz25) (ai ag25 zv25)) (ai (ai sb25 un25) (ai el25 ap25)))) (ai (ai (ai sz41 (ai ag41 zv41)) (ai (ai sb41 un41) (ai el41 ap41))) (ai (ai (ai sz43 ag43) (ai zv43 fl43_0)) (ai (ai fl43_1 fl43_2) (ai pl43 okf61)))))
theorem l3Rec_t (l : List ByteArray) (hl : l.length ≤ 2^20) (a : List Ty) (ha : okLs (2^20) okTy a) : FnS Tryz.prog 47 [] [slT eS l, slT eTy a] [] (agT (eTy (.mk 3 l a))) := by
  refine FnS.go [0, 1, 4, 5, 6, 14] [1000, 14] Tryz.func47 rfl (fun kt kz => ?_)
  have fcx := fc47A92
  simp only [Tryz.f47]
  have hal := ha.1
  have e0 : eTy (.mk 3 l a) = [.sc (.int .i64 3), .sl l.length (l.flatMap eS), .sl a.length (a.flatMap eTy)] := eTy_eta _
  have dx : Dx 4 3 5 := ⟨⟩
  refine RunX (cast_succ) ?_; with_reducible repeat' (first | exact True.intro | refine Lf.mk ?_ ?_ | intro hb)
  refine Sm.nlB (10) 2 (1000) (43) 3 false (by rfl) (by rfl) (by rfl) (by decide) (by rfl) (by rfl) (by decide) (by rfl) ?_; simp only [upd, List.set_cons_zero, List.set_cons_succ, ↓reduceIte, Nat.reduceEqDiff]
  refine Trn (α := Nat) [6, 11, 12, 13, 14, 15, 16, 17, 18, 19, 20, 21, 22, 23, 24, 25, 26] (fun i => [(6, iT i)]) (fun i => [(8, .box 43 [.im (.sc (.int .i64 0)), .nl, .nl]), (10, .box 43 [.im (.sc (.int .i64 3)), .os 14 l.length, .os 1000 i]), (14, .vec 9 1 l.length (l.flatMap eS) true), (1000, .vec 43 3 i ((a.take i).flatMap eTy) false)]) (fun i => i ≤ a.length) (fun i => a.length - i) (0) (Nat.zero_le _) (cast_succ) ?_; intro lx hI; obtain i := lx; (try simp only [List.nil_append, List.cons_append] at hI ⊢)
  by_cases hlt : lx < a.length
  · have e1 : (a.take lx).flatMap eTy ++ eTy a[lx] = (a.take (lx + 1)).flatMap eTy := by rw [take_at hlt, List.flatMap_append, flat_one]
    rw [eTy_eta a[lx]] at e1
    simp only [slI] at e1
    refine Run ((ai (eTy_eta a[lx]) @hlt)) ?_; with_reducible repeat' (first | exact True.intro | refine Lf.mk ?_ ?_ | intro hb)
    refine CalI ((eTy_eta a[lx])) (l3Copy_ok a[lx] (ha.2 _ (List.getElem_mem hlt))) ?_
    refine Run ((ai (eTy_eta a[lx]) @hlt)) ?_; with_reducible repeat' (first | exact True.intro | refine Lf.mk ?_ ?_ | intro hb)
    exact Nxt ((ai (eTy_eta a[lx]) @e1)) (lx + 1) (hlt) (by first | omega | (simp; omega))
  · obtain rfl : lx = a.length := by omega
    have e1 : (a.take a.length).flatMap eTy = a.flatMap eTy := by rw [List.take_length]
    refine Run ((ai @hlt (ai @e1 @e0))) ?_; with_reducible repeat' (first | exact True.intro | refine Lf.mk ?_ ?_ | intro hb)
def fc120A92 := (ai (ai (ai (ai sz9 (ai ag9 zv9)) (ai un9 (ai sz43 ag43))) (ai (ai zv43 (ai fl43_0 fl43_1)) (ai (ai fl43_2 pl43) (ai sz69 ag69)))) (ai (ai (ai zv69 (ai fl69_0 fl69_1)) (ai (ai pl69 sz70) (ai ag70 zv70))) (ai (ai sb70 (ai un70 el70)) (ai (ai ap70 sz3) (ai sz25 sz41)))))
theorem specWith_of (ctx : List Decl) (h : ctx.length ≤ 2^20) (name : ByteArray) (t : Ty) : FnS Tryz.prog 120 [] [slT eDecl ctx, sT name, agT (eTy t)] [] (slT eDecl (ctx ++ [⟨name, t⟩])) := by
  refine FnS.go [0, 1, 2, 5, 6, 7] [16] Tryz.func120 rfl (fun kt kz => ?_)
  have fcx := fc120A92
  simp only [Tryz.f120]
  have e1 : ctx.flatMap eDecl ++ [.sc (.string name), .sc (.int .i64 t.kind), .sl t.labels.length (t.labels.flatMap eS), .sl t.args.length (t.args.flatMap eTy)] = (ctx ++ [Decl.mk name t]).flatMap eDecl := by rw [List.flatMap_append, flat_one, eDecl_eta]; rfl
  have e2 : ctx.length + 1 = (ctx ++ [Decl.mk name t]).length := by simp
  have e3 := flatD_len ctx
  refine Run ((ai (ai @eTy_eta @e1) (ai @e2 @e3))) ?_; with_reducible repeat' (first | exact True.intro | refine Lf.mk ?_ ?_ | intro hb)
def fc46A92 := (ai (ai (ai (ai sz41 ag41) (ai zv41 sb41)) (ai (ai un41 el41) (ai ap41 sz43))) (ai (ai (ai ag43 zv43) (ai fl43_0 fl43_1)) (ai (ai fl43_2 pl43) (ai okf61 (ai sz3 sz25)))))
theorem l3Bag_of (t : Ty) (h : okTy (2^20) t) : FnS Tryz.prog 46 [] [agT (eTy t)] [] (.ag [.im (.sc (.int .i64 4)), .nl, .im (.sl 1 (eTy t))]) := by
  refine FnS.go [0, 1, 2] [10] Tryz.func46 rfl (fun kt kz => ?_)
  have fcx := fc46A92
  simp only [Tryz.f46]
  refine Run (@eTy_eta) ?_; with_reducible repeat' (first | exact True.intro | refine Lf.mk ?_ ?_ | intro hb)
  refine CalI (@eTy_eta) (l3Copy_ok t h) ?_
  refine Run (@eTy_eta) ?_; with_reducible repeat' (first | exact True.intro | refine Lf.mk ?_ ?_ | intro hb)
def fc121A92 := (ai (ai (ai (ai sz41 ag41) (ai zv41 sb41)) (ai (ai un41 el41) (ai ap41 sz43))) (ai (ai (ai ag43 zv43) (ai fl43_0 fl43_1)) (ai (ai fl43_2 pl43) (ai okf61 (ai sz3 sz25)))))
theorem l3Fun_of (t u : Ty) (h : okTy (2^20) t) (h2 : okTy (2^20) u) : FnS Tryz.prog 121 [] [agT (eTy t), agT (eTy u)] [] (.ag [.im (.sc (.int .i64 5)), .nl, .ik 2 2 (eTy t ++ eTy u)]) := by
  refine FnS.go [0, 1, 2, 3, 4] [] Tryz.func121 rfl (fun kt kz => ?_)
  have fcx := fc121A92
  simp only [Tryz.f121]
  refine Run (@eTy_eta) ?_; with_reducible repeat' (first | exact True.intro | refine Lf.mk ?_ ?_ | intro hb)
  refine CalI (@eTy_eta) (l3Copy_ok t h) ?_
  refine Run (@eTy_eta) ?_; with_reducible repeat' (first | exact True.intro | refine Lf.mk ?_ ?_ | intro hb)
  refine CalI (@eTy_eta) (l3Copy_ok u h2) ?_
  refine Run (@eTy_eta) ?_; with_reducible repeat' (first | exact True.intro | refine Lf.mk ?_ ?_ | intro hb)
def fc123A92 := (ai (ai (ai sz43 ag43) (ai zv43 (ai fl43_0 fl43_1))) (ai (ai fl43_2 pl43) (ai sz3 (ai sz25 sz41))))
theorem sInt_of (u : Unit) : FnS Tryz.prog 123 [] [] [] (.ag [.im (.sc (.int .i64 1)), .nl, .nl]) := by
  refine FnS.go [0] [] Tryz.func123 rfl (fun kt kz => ?_)
  have fcx := fc123A92
  simp only [Tryz.f123]
  refine Run (cast_succ) ?_; with_reducible repeat' (first | exact True.intro | refine Lf.mk ?_ ?_ | intro hb)
def fc30A92 := (ai (ai (ai sz43 ag43) (ai zv43 (ai fl43_0 fl43_1))) (ai (ai fl43_2 pl43) (ai sz3 (ai sz25 sz41))))
theorem sBool_of (u : Unit) : FnS Tryz.prog 30 [] [] [] (.ag [.im (.sc (.int .i64 2)), .nl, .nl]) := by
  refine FnS.go [0] [] Tryz.func30 rfl (fun kt kz => ?_)
  have fcx := fc30A92
  simp only [Tryz.f30]
  refine Run (cast_succ) ?_; with_reducible repeat' (first | exact True.intro | refine Lf.mk ?_ ?_ | intro hb)

theorem sInt_t : FnP Tryz.prog 123 [] (agT (eTy tInt)) := (sInt_of ()).tree rfl
theorem sBool_t : FnP Tryz.prog 30 [] (agT (eTy tBool)) := (sBool_of ()).tree rfl
theorem sBag_t (t : Ty) (h : okTy (2^20) t) : FnP Tryz.prog 46 [agT (eTy t)] (agT (eTy (tBag t))) := by
  have e2 : slI eTy (tBag t).args = .sl 1 (eTy t) := by show IV.sl 1 ([t].flatMap eTy) = _; rw [flat_one]
  refine (l3Bag_of t h).tree ?_
  rw [agT, eTy_eta (tBag t), e2]
  rfl
theorem sFun_t (t u : Ty) (h : okTy (2^20) t) (h2 : okTy (2^20) u) : FnP Tryz.prog 121 [agT (eTy t), agT (eTy u)] (agT (eTy (tFun t u))) := by
  have e2 : slI eTy (tFun t u).args = .sl 2 (eTy t ++ eTy u) := by show IV.sl 2 ([t, u].flatMap eTy) = _; simp
  refine (l3Fun_of t u h h2).tree ?_
  rw [agT, eTy_eta (tFun t u), e2]
  rfl
def fc23A92 := (ai (ai (ai (ai (ai sz3 ag3) (ai zv3 (ai un3 sz4))) (ai (ai ag4 zv4) (ai un4 (ai sz9 ag9)))) (ai (ai (ai zv9 un9) (ai sz37 (ai ag37 zv37))) (ai (ai sb37 un37) (ai el37 (ai ap37 sz39))))) (ai (ai (ai (ai ag39 zv39) (ai fl39_0 (ai pl39 sz43))) (ai (ai ag43 zv43) (ai fl43_0 (ai fl43_1 fl43_2)))) (ai (ai (ai pl43 sz97) (ai ag97 (ai zv97 fl97_0))) (ai (ai fl97_1 pl97) (ai okf61 (ai sz25 sz41))))))
theorem specRowT_a (s : List Decl) (h : okSch (2^20) s) (name : ByteArray) (t : Ty) (ht : rowT s name = some t) : FnS Tryz.prog 23 [] [agT (eSch s), sT name] [] (.tp [agT (eTy t), bT true]) := by
  refine FnS.go [0, 1, 2, 4, 5, 6, 11, 21] [] Tryz.func23 rfl (fun kt kz => ?_)
  have fcx := fc23A92
  simp only [Tryz.f23]
  have ho := okSch_iff.1 h
  have hl := ho.1
  refine Run (@eSch_eta) ?_; with_reducible repeat' (first | exact True.intro | refine Lf.mk ?_ ?_ | intro hb)
  refine Trn (α := Nat) [5, 6, 7, 8, 9, 10, 11, 12, 13, 14, 15, 16, 17, 18, 19, 20, 21, 22, 23, 24, 25, 26, 27, 28] (fun i => [(6, iT i)]) (fun i => [(4, .box 39 ((eSch s).map .im)), (8, .box 43 [.im (.sc (.int .i64 0)), .nl, .nl])]) (fun i => i ≤ s.length ∧ (s.take i).any (fun d => decide (d.name = name)) = false) (fun i => s.length - i) (0) (⟨Nat.zero_le _, rfl⟩) (@eSch_eta) ?_; intro lx hI; obtain i := lx; (try simp only [List.nil_append, List.cons_append] at hI ⊢)
  by_cases hlt : lx < s.length
  · by_cases hn : s[lx].name = name
    · have gn := eq_true hn
      have e := rowT_at hlt hI.2 hn
      obtain rfl : t = s[lx].row := by rw [ht] at e; exact Option.some.inj e
      refine Run ((ai (ai @eSch_eta @eDecl_eta) (ai @hlt @gn))) ?_; with_reducible repeat' (first | exact True.intro | refine Lf.mk ?_ ?_ | intro hb)
      refine CalI (@eTy_eta) (l3Copy_ok s[lx].row (okDecl_iff.1 (ho.2 _ (List.getElem_mem hlt))).2) ?_
      refine Run (@eTy_eta) ?_; with_reducible repeat' (first | exact True.intro | refine Lf.mk ?_ ?_ | intro hb)
    · have gn := eq_false hn
      refine Run ((ai (ai @eSch_eta @eDecl_eta) (ai @hlt @gn))) ?_; with_reducible repeat' (first | exact True.intro | refine Lf.mk ?_ ?_ | intro hb)
      exact Nxt (@eSch_eta) (lx + 1) (⟨by omega, any_take hlt hI.2 (decide_eq_false hn)⟩) (by first | omega | (simp; omega))
  · have e := rowT_no (any_all (by omega) hI.2)
    rw [ht] at e; cases e
theorem specRowT_b (s : List Decl) (h : okSch (2^20) s) (name : ByteArray) (ht : rowT s name = none) : FnS Tryz.prog 23 [] [agT (eSch s), sT name] [] (.tp [.ag [.im (.sc (.int .i64 0)), .nl, .nl], bT false]) := by
  refine FnS.go [0, 1, 2, 4, 5, 6, 11, 21] [] Tryz.func23 rfl (fun kt kz => ?_)
  have fcx := fc23A92
  simp only [Tryz.f23]
  have ho := okSch_iff.1 h
  have hl := ho.1
  refine Run (@eSch_eta) ?_; with_reducible repeat' (first | exact True.intro | refine Lf.mk ?_ ?_ | intro hb)
  refine Trn (α := Nat) [5, 6, 7, 8, 9, 10, 11, 12, 13, 14, 15, 16, 17, 18, 19, 20, 21, 22, 23, 24, 25, 26, 27, 28] (fun i => [(6, iT i)]) (fun i => [(4, .box 39 ((eSch s).map .im)), (8, .box 43 [.im (.sc (.int .i64 0)), .nl, .nl])]) (fun i => i ≤ s.length ∧ (s.take i).any (fun d => decide (d.name = name)) = false) (fun i => s.length - i) (0) (⟨Nat.zero_le _, rfl⟩) (@eSch_eta) ?_; intro lx hI; obtain i := lx; (try simp only [List.nil_append, List.cons_append] at hI ⊢)
  by_cases hlt : lx < s.length
  · by_cases hn : s[lx].name = name
    · have e := rowT_at hlt hI.2 hn
      rw [ht] at e; cases e
    · have gn := eq_false hn
      refine Run ((ai (ai @eSch_eta @eDecl_eta) (ai @hlt @gn))) ?_; with_reducible repeat' (first | exact True.intro | refine Lf.mk ?_ ?_ | intro hb)
      exact Nxt (@eSch_eta) (lx + 1) (⟨by omega, any_take hlt hI.2 (decide_eq_false hn)⟩) (by first | omega | (simp; omega))
  · refine Run ((ai @eSch_eta @hlt)) ?_; with_reducible repeat' (first | exact True.intro | refine Lf.mk ?_ ?_ | intro hb)

theorem specRowT_ok (s : List Decl) (h : okSch (2^20) s) (name : ByteArray) : FnP Tryz.prog 23 [agT (eSch s), sT name] (.tp [agT (eTy ((rowT s name).getD ty0)), bT (rowT s name).isSome]) := by
  cases ht : rowT s name with
  | some t => exact specRowT_a s h name t ht
  | none => exact (specRowT_b s h name ht).treeP rfl
def fc105A92 := (ai (ai (ai sz3 ag3) (ai zv3 un3)) (ai (ai sz4 ag4) (ai zv4 un4)))
theorem l7Named_ok (k : Int) : FnS Tryz.prog 105 [] [iT k] [] (bT (decide (nmK k))) := by
  refine FnS.go [0, 2] [] Tryz.func105 rfl (fun kt kz => ?_)
  have fcx := fc105A92
  simp only [Tryz.f105]
  have hno : ¬ nmK k → decide (nmK k) = false := decide_eq_false
  by_cases h1 : k = 1
  · have g1 := eq_true h1
    have e : decide (nmK k) = true := decide_eq_true (.inl h1)
    refine Run ((ai @g1 @e)) ?_; with_reducible repeat' (first | exact True.intro | refine Lf.mk ?_ ?_ | intro hb)
  · have g1 := eq_false h1
    by_cases h6 : k = 6
    · have g6 := eq_true h6
      have e : decide (nmK k) = true := decide_eq_true (.inr (.inl h6))
      refine Run ((ai @g1 (ai @g6 @e))) ?_; with_reducible repeat' (first | exact True.intro | refine Lf.mk ?_ ?_ | intro hb)
    · have g6 := eq_false h6
      by_cases h10 : k = 10
      · have g10 := eq_true h10
        have e : decide (nmK k) = true := decide_eq_true (.inr (.inr (.inl h10)))
        refine Run ((ai (ai @g1 @g6) (ai @g10 @e))) ?_; with_reducible repeat' (first | exact True.intro | refine Lf.mk ?_ ?_ | intro hb)
      · have g10 := eq_false h10
        by_cases h12 : k = 12
        · have g12 := eq_true h12
          have e : decide (nmK k) = true := decide_eq_true (.inr (.inr (.inr (.inl h12))))
          refine Run ((ai (ai @g1 @g6) (ai @g10 (ai @g12 @e)))) ?_; with_reducible repeat' (first | exact True.intro | refine Lf.mk ?_ ?_ | intro hb)
        · have g12 := eq_false h12
          have e : decide (k = 13) = decide (nmK k) := decide_eq_decide.2 ⟨fun h => .inr (.inr (.inr (.inr h))), fun h => by unfold nmK at h; omega⟩
          refine Run ((ai (ai @g1 @g6) (ai @g10 (ai @g12 @e)))) ?_; with_reducible repeat' (first | exact True.intro | refine Lf.mk ?_ ?_ | intro hb)

end Go.VC.T
/- Types of forms that bind nothing: the program's side. -/
namespace Go.VC
@[simp] theorem imKeys (v : IV) : (Cell.im v).keys = [] := rfl
end Go.VC
namespace Go.VC.T
open Go Go.VC Go.Proofs Go.VC.F
def fc119A85 := (ai (ai (ai (ai (ai sz3 (ai ag3 zv3)) (ai (ai un3 sz4) (ai ag4 zv4))) (ai (ai un4 (ai sz9 ag9)) (ai (ai zv9 un9) (ai sz25 ag25)))) (ai (ai (ai zv25 (ai sb25 un25)) (ai (ai el25 ap25) (ai sz41 ag41))) (ai (ai (ai zv41 sb41) (ai un41 el41)) (ai (ai ap41 sz43) (ai ag43 zv43))))) (ai (ai (ai (ai fl43_0 (ai fl43_1 fl43_2)) (ai (ai pl43 sz46) (ai ag46 zv46))) (ai (ai fl46_0 (ai fl46_1 fl46_2)) (ai (ai fl46_3 fl46_4) (ai fl46_5 pl46)))) (ai (ai (ai sz77 (ai ag77 zv77)) (ai (ai un77 sz119) (ai ag119 zv119))) (ai (ai (ai un119 okf50) (ai okf115 okf116)) (ai (ai okf129 okf130) (ai okf131 sz44))))))
theorem plain4_of (Y : List IV) (e : Tm) (r : List IV) (ts : List Ty) (k : e.kind = 4) (t' : Ty) (b : Bool) (H : FnP Tryz.prog 129 [sT e.name, slT eTy ts] (.tp [agT (eTy t'), bT b])) : FnS Tryz.prog 119 [] [.c (.im (.pt Y)), .c (.im (.pt (eTm e ++ r))), slT eTy ts] [] (.tp [agT (eTy t'), bT b]) := by
  refine FnS.go [1, 2, 6, 7, 11, 12, 22, 30, 42, 48, 67, 86, 105, 113, 121] [] Tryz.func119 rfl (fun kt kz => ?_)
  have fcx := fc119A85
  simp only [Tryz.f119]
  refine Run ((ai @eTm_eta (ai @eTy_eta @k))) ?_; with_reducible repeat' (first | exact True.intro | refine Lf.mk ?_ ?_ | intro hb)
  refine CalI ((ai @eTm_eta @eTy_eta)) (H) ?_
  refine Run ((ai @eTm_eta @eTy_eta)) ?_; with_reducible repeat' (first | exact True.intro | refine Lf.mk ?_ ?_ | intro hb)
  refine ⟨rfl, ?_⟩
  refine Run ((ai @eTm_eta @eTy_eta)) ?_; with_reducible repeat' (first | exact True.intro | refine Lf.mk ?_ ?_ | intro hb)
theorem plain5_of (Y : List IV) (e : Tm) (r : List IV) (ts : List Ty) (k : e.kind = 5) : FnS Tryz.prog 119 [] [.c (.im (.pt Y)), .c (.im (.pt (eTm e ++ r))), slT eTy ts] [] (.tp [agT (eTy (tRec e.labels ts)), bT true]) := by
  refine FnS.go [1, 2, 6, 7, 11, 12, 22, 30, 42, 48, 67, 86, 105, 113, 121] [] Tryz.func119 rfl (fun kt kz => ?_)
  have fcx := fc119A85
  simp only [Tryz.f119]
  have e1 : (tRec e.labels ts).kind = 3 := rfl
  have e2 : (tRec e.labels ts).labels = e.labels := rfl
  have e3 : (tRec e.labels ts).args = ts := rfl
  refine Run ((ai (ai @eTm_eta (ai @eTy_eta @k)) (ai @e1 (ai @e2 @e3)))) ?_; with_reducible repeat' (first | exact True.intro | refine Lf.mk ?_ ?_ | intro hb)
theorem plain6_of (Y : List IV) (e : Tm) (r : List IV) (ts : List Ty) (k : e.kind = 6) (h0 : 0 < ts.length) (t' : Ty) (b : Bool) (H : FnP Tryz.prog 130 [agT (eTy ts[0]), sT e.name] (.tp [agT (eTy t'), bT b])) : FnS Tryz.prog 119 [] [.c (.im (.pt Y)), .c (.im (.pt (eTm e ++ r))), slT eTy ts] [] (.tp [agT (eTy t'), bT b]) := by
  refine FnS.go [1, 2, 6, 7, 11, 12, 22, 30, 42, 48, 67, 86, 105, 113, 121] [] Tryz.func119 rfl (fun kt kz => ?_)
  have fcx := fc119A85
  simp only [Tryz.f119]
  refine Run ((ai (ai @eTm_eta @eTy_eta) (ai @k @h0))) ?_; with_reducible repeat' (first | exact True.intro | refine Lf.mk ?_ ?_ | intro hb)
  refine CalI ((ai @eTm_eta @eTy_eta)) (H) ?_
  refine Run ((ai @eTm_eta @eTy_eta)) ?_; with_reducible repeat' (first | exact True.intro | refine Lf.mk ?_ ?_ | intro hb)
  refine ⟨rfl, ?_⟩
  refine Run ((ai @eTm_eta @eTy_eta)) ?_; with_reducible repeat' (first | exact True.intro | refine Lf.mk ?_ ?_ | intro hb)
theorem plain8_of (Y : List IV) (e : Tm) (r : List IV) (ts : List Ty) (k : e.kind = 8) (h0 : 0 < ts.length) : FnS Tryz.prog 119 [] [.c (.im (.pt Y)), .c (.im (.pt (eTm e ++ r))), slT eTy ts] [] (.tp [agT (eTy (tBag ts[0])), bT true]) := by
  refine FnS.go [1, 2, 6, 7, 11, 12, 22, 30, 42, 48, 67, 86, 105, 113, 121] [] Tryz.func119 rfl (fun kt kz => ?_)
  have fcx := fc119A85
  simp only [Tryz.f119]
  refine Run ((ai (ai @eTm_eta @eTy_eta) (ai @k @h0))) ?_; with_reducible repeat' (first | exact True.intro | refine Lf.mk ?_ ?_ | intro hb)
  refine CalI ((ai @eTm_eta @eTy_eta)) (bagType_ok ts[0]) ?_
  refine Run ((ai @eTm_eta @eTy_eta)) ?_; with_reducible repeat' (first | exact True.intro | refine Lf.mk ?_ ?_ | intro hb)
theorem plain9_of (Y : List IV) (e : Tm) (r : List IV) (ts : List Ty) (ho : ∀ t ∈ ts, okTy (2^20) t) (k : e.kind = 9) (h0 : 0 < ts.length) (h1 : 1 < ts.length) (b : Bool) (hb : b = decide (ts[0].kind = 4 ∧ ts[0] = ts[1])) : FnS Tryz.prog 119 [] [.c (.im (.pt Y)), .c (.im (.pt (eTm e ++ r))), slT eTy ts] [] (.tp [agT (eTy ts[0]), bT b]) := by
  refine FnS.go [1, 2, 6, 7, 11, 12, 22, 30, 42, 48, 67, 86, 105, 113, 121] [] Tryz.func119 rfl (fun kt kz => ?_)
  have fcx := fc119A85
  simp only [Tryz.f119]
  have dq : Dq [0, 1, 2, 3, 4, 5, 6, 7, 8, 9, 10, 11, 12, 13, 14, 15, 16] [17, 18] 40 [[16], []] := ⟨⟩
  by_cases c : ts[0].kind = 4
  · have gc := eq_true c
    have e1 : decide (ts[0] = ts[1]) = b := by rw [hb]; exact decide_eq_decide.2 ⟨fun h => ⟨c, h⟩, fun h => h.2⟩
    refine RunX ((ai (ai @eTm_eta (ai @eTy_eta @k)) (ai @h0 (ai @h1 @gc)))) ?_; with_reducible repeat' (first | exact True.intro | refine Lf.mk ?_ ?_ | intro hb)
    refine Cal ((ai @eTm_eta (ai @eTy_eta @gc))) (implEqTy_ok ts[0] ts[1] (ho _ (List.getElem_mem h0)) (ho _ (List.getElem_mem h1))) ?_
    refine RunX ((ai (ai @eTm_eta @eTy_eta) (ai @e1 @gc))) ?_; with_reducible repeat' (first | exact True.intro | refine Lf.mk ?_ ?_ | intro hb)
  · have gc := eq_false c
    have e1 : b = false := by rw [hb]; exact decide_eq_false fun h => c h.1
    refine RunX ((ai (ai @eTm_eta (ai @eTy_eta @k)) (ai (ai @h0 @h1) (ai @gc @e1)))) ?_; with_reducible repeat' (first | exact True.intro | refine Lf.mk ?_ ?_ | intro hb)
    refine ⟨rfl, ?_⟩
    refine RunX ((ai @eTm_eta (ai @eTy_eta @e1))) ?_; with_reducible repeat' (first | exact True.intro | refine Lf.mk ?_ ?_ | intro hb)
theorem plain11_of (Y : List IV) (e : Tm) (r : List IV) (ts : List Ty) (ho : ∀ t ∈ ts, okTy (2^20) t) (k : e.kind = 11) (h0 : 0 < ts.length) (h1 : 1 < ts.length) (h2 : 2 < ts.length) (b : Bool) (hb : b = decide (ts[0].kind = 2 ∧ ts[1] = ts[2])) : FnS Tryz.prog 119 [] [.c (.im (.pt Y)), .c (.im (.pt (eTm e ++ r))), slT eTy ts] [] (.tp [agT (eTy ts[1]), bT b]) := by
  refine FnS.go [1, 2, 6, 7, 11, 12, 22, 30, 42, 48, 67, 86, 105, 113, 121] [] Tryz.func119 rfl (fun kt kz => ?_)
  have fcx := fc119A85
  simp only [Tryz.f119]
  have dq : Dq [0, 1, 2, 3, 4, 5, 6, 7, 8, 9, 10, 11, 12, 13, 14, 15, 16] [17, 18] 40 [[16], []] := ⟨⟩
  by_cases c : ts[0].kind = 2
  · have gc := eq_true c
    have e1 : decide (ts[1] = ts[2]) = b := by rw [hb]; exact decide_eq_decide.2 ⟨fun h => ⟨c, h⟩, fun h => h.2⟩
    refine RunX ((ai (ai @eTm_eta (ai @eTy_eta @k)) (ai (ai @h0 @h1) (ai @h2 @gc)))) ?_; with_reducible repeat' (first | exact True.intro | refine Lf.mk ?_ ?_ | intro hb)
    refine Cal ((ai @eTm_eta (ai @eTy_eta @gc))) (implEqTy_ok ts[1] ts[2] (ho _ (List.getElem_mem h1)) (ho _ (List.getElem_mem h2))) ?_
    refine RunX ((ai (ai @eTm_eta @eTy_eta) (ai @e1 @gc))) ?_; with_reducible repeat' (first | exact True.intro | refine Lf.mk ?_ ?_ | intro hb)
  · have gc := eq_false c
    have e1 : b = false := by rw [hb]; exact decide_eq_false fun h => c h.1
    refine RunX ((ai (ai (ai @eTm_eta @eTy_eta) (ai @k @h0)) (ai (ai @h1 @h2) (ai @gc @e1)))) ?_; with_reducible repeat' (first | exact True.intro | refine Lf.mk ?_ ?_ | intro hb)
    refine ⟨rfl, ?_⟩
    refine RunX ((ai @eTm_eta (ai @eTy_eta @e1))) ?_; with_reducible repeat' (first | exact True.intro | refine Lf.mk ?_ ?_ | intro hb)
theorem plain14_a (Y : List IV) (e : Tm) (r : List IV) (ts : List Ty) (ho : ∀ t ∈ ts, okTy (2^20) t) (k : e.kind = 14) (h0 : 0 < ts.length) (h1 : 1 < ts.length) (c : ts[0].kind = 5) (a0 : 0 < ts[0].args.length) (a1 : 1 < ts[0].args.length) (he : ts[0].args[0] = ts[1]) : FnS Tryz.prog 119 [] [.c (.im (.pt Y)), .c (.im (.pt (eTm e ++ r))), slT eTy ts] [] (.tp [agT (eTy ts[0].args[1]), bT true]) := by
  refine FnS.go [1, 2, 6, 7, 11, 12, 22, 30, 42, 48, 67, 86, 105, 113, 121] [] Tryz.func119 rfl (fun kt kz => ?_)
  have fcx := fc119A85
  simp only [Tryz.f119]
  have gc := eq_true c
  have ge := eq_true he
  have o0 := okTy_iff.1 (ho _ (List.getElem_mem h0))
  refine Run ((ai (ai (ai @eTm_eta @eTy_eta) (ai @k @h0)) (ai (ai @h1 @a0) (ai @a1 @gc)))) ?_; with_reducible repeat' (first | exact True.intro | refine Lf.mk ?_ ?_ | intro hb)
  refine Cal ((ai @eTm_eta (ai @eTy_eta @gc))) (implEqTy_ok ts[0].args[0] ts[1] (o0.2.2.2 _ (List.getElem_mem a0)) (ho _ (List.getElem_mem h1))) ?_
  refine Run ((ai (ai (ai @eTm_eta @eTy_eta) (ai @ge @gc)) (ai (ai @h0 @h1) (ai @a0 @a1)))) ?_; with_reducible repeat' (first | exact True.intro | refine Lf.mk ?_ ?_ | intro hb)
theorem plain14_b (Y : List IV) (e : Tm) (r : List IV) (ts : List Ty) (ho : ∀ t ∈ ts, okTy (2^20) t) (k : e.kind = 14) (h0 : 0 < ts.length) (h1 : 1 < ts.length) (c : ts[0].kind = 5) (a0 : 0 < ts[0].args.length) (he : ¬ ts[0].args[0] = ts[1]) : FnS Tryz.prog 119 [] [.c (.im (.pt Y)), .c (.im (.pt (eTm e ++ r))), slT eTy ts] [] (.tp [.ag [.im (.sc (.int .i64 0)), .nl, .nl], bT false]) := by
  refine FnS.go [1, 2, 6, 7, 11, 12, 22, 30, 42, 48, 67, 86, 105, 113, 121] [] Tryz.func119 rfl (fun kt kz => ?_)
  have fcx := fc119A85
  simp only [Tryz.f119]
  have gc := eq_true c
  have ge := eq_false he
  have o0 := okTy_iff.1 (ho _ (List.getElem_mem h0))
  refine Run ((ai (ai @eTm_eta (ai @eTy_eta @k)) (ai (ai @h0 @h1) (ai @a0 @gc)))) ?_; with_reducible repeat' (first | exact True.intro | refine Lf.mk ?_ ?_ | intro hb)
  refine Cal ((ai @eTm_eta (ai @eTy_eta @gc))) (implEqTy_ok ts[0].args[0] ts[1] (o0.2.2.2 _ (List.getElem_mem a0)) (ho _ (List.getElem_mem h1))) ?_
  refine Run ((ai (ai @eTm_eta (ai @eTy_eta @ge)) (ai (ai @gc @h0) (ai @h1 @a0)))) ?_; with_reducible repeat' (first | exact True.intro | refine Lf.mk ?_ ?_ | intro hb)
theorem plain14_c (Y : List IV) (e : Tm) (r : List IV) (ts : List Ty) (k : e.kind = 14) (h0 : 0 < ts.length) (c : ¬ ts[0].kind = 5) : FnS Tryz.prog 119 [] [.c (.im (.pt Y)), .c (.im (.pt (eTm e ++ r))), slT eTy ts] [] (.tp [.ag [.im (.sc (.int .i64 0)), .nl, .nl], bT false]) := by
  refine FnS.go [1, 2, 6, 7, 11, 12, 22, 30, 42, 48, 67, 86, 105, 113, 121] [] Tryz.func119 rfl (fun kt kz => ?_)
  have fcx := fc119A85
  simp only [Tryz.f119]
  have gc := eq_false c
  refine Run ((ai (ai @eTm_eta @eTy_eta) (ai @k (ai @h0 @gc)))) ?_; with_reducible repeat' (first | exact True.intro | refine Lf.mk ?_ ?_ | intro hb)
theorem plain15_of (Y : List IV) (e : Tm) (r : List IV) (ts : List Ty) (k : e.kind = 15) (h0 : 0 < ts.length) : FnS Tryz.prog 119 [] [.c (.im (.pt Y)), .c (.im (.pt (eTm e ++ r))), slT eTy ts] [] (.tp [agT (eTy tBool), bT (decide (ts[0].kind = 4))]) := by
  refine FnS.go [1, 2, 6, 7, 11, 12, 22, 30, 42, 48, 67, 86, 105, 113, 121] [] Tryz.func119 rfl (fun kt kz => ?_)
  have fcx := fc119A85
  simp only [Tryz.f119]
  have dq : Dq [0, 1, 2, 3, 4, 5] [6, 7] 20 [[1, 2, 3, 4, 5], []] := ⟨⟩
  refine RunX ((ai (ai @eTm_eta @eTy_eta) (ai @k @h0))) ?_; with_reducible repeat' (first | exact True.intro | refine Lf.mk ?_ ?_ | intro hb)
  refine CalI ((ai @eTm_eta @eTy_eta)) (boolType_t) ?_
  refine RunX ((ai @eTm_eta (ai @eTy_eta @h0))) ?_; with_reducible repeat' (first | exact True.intro | refine Lf.mk ?_ ?_ | intro hb)
theorem plain16_of (Y : List IV) (e : Tm) (r : List IV) (ts : List Ty) (k : e.kind = 16) (h0 : 0 < ts.length) : FnS Tryz.prog 119 [] [.c (.im (.pt Y)), .c (.im (.pt (eTm e ++ r))), slT eTy ts] [] (.tp [agT (eTy tInt), bT (decide (ts[0].kind = 4))]) := by
  refine FnS.go [1, 2, 6, 7, 11, 12, 22, 30, 42, 48, 67, 86, 105, 113, 121] [] Tryz.func119 rfl (fun kt kz => ?_)
  have fcx := fc119A85
  simp only [Tryz.f119]
  have dq : Dq [0, 1, 2, 3, 4, 5] [6, 7] 20 [[1, 2, 3, 4, 5], []] := ⟨⟩
  refine RunX ((ai (ai @eTm_eta @eTy_eta) (ai @k @h0))) ?_; with_reducible repeat' (first | exact True.intro | refine Lf.mk ?_ ?_ | intro hb)
  refine CalI ((ai @eTm_eta @eTy_eta)) (intType_t) ?_
  refine RunX ((ai @eTm_eta (ai @eTy_eta @h0))) ?_; with_reducible repeat' (first | exact True.intro | refine Lf.mk ?_ ?_ | intro hb)

end Go.VC.T
/- Forms of terms: the program's side. -/
namespace Go.VC.T
open Go Go.VC Go.Proofs Go.VC.F
def fc99A79 := (ai (ai (ai (ai (ai sz3 (ai ag3 zv3)) (ai un3 (ai sz4 ag4))) (ai (ai zv4 (ai un4 sz9)) (ai (ai ag9 zv9) (ai un9 sz25)))) (ai (ai (ai ag25 (ai zv25 sb25)) (ai un25 (ai el25 ap25))) (ai (ai sz43 (ai ag43 zv43)) (ai (ai fl43_0 fl43_1) (ai fl43_2 pl43))))) (ai (ai (ai (ai sz44 (ai ag44 zv44)) (ai sb44 (ai un44 el44))) (ai (ai ap44 (ai sz46 ag46)) (ai (ai zv46 fl46_0) (ai fl46_1 fl46_2)))) (ai (ai (ai fl46_3 (ai fl46_4 fl46_5)) (ai pl46 (ai sz77 ag77))) (ai (ai zv77 (ai un77 okf72)) (ai (ai okf95 okf112) (ai okf113 sz41))))))
theorem nodeForm_ok (t : Tm) (h : okTm (2^20) t) (hz : zTm t ≤ 2^40) (r : List IV) : FnS Tryz.prog 99 [] [.c (.im (.pt (eTm t ++ r)))] [] (bT (decide (NdOk t))) := by
  refine FnS.go [0, 2, 3, 4, 5, 6, 39, 40, 98, 124] [] Tryz.func99 rfl (fun kt kz => ?_)
  have fcx := fc99A79
  simp only [Tryz.f99]
  have ho := okTm_iff.1 h
  have hzt : zTy t.ty ≤ 2^40 := by have := zTm_eta t; omega
  have hno : ¬ NdOk t → decide (NdOk t) = false := decide_eq_false
  refine Run ((ai @eTm_eta @eTy_eta)) ?_; with_reducible repeat' (first | exact True.intro | refine Lf.mk ?_ ?_ | intro hb)
  refine Cal ((ai @eTm_eta @eTy_eta)) (shape_ok t h r) ?_
  by_cases s1 : shO t = true
  · have g1 := eq_true s1
    have ha := shM_of s1
    by_cases s2 : (t.args.length : Int) = shM t
    · have g2 := eq_true s2
      by_cases s3 : ¬ t.kind = 5 ∧ 0 < (t.labels.length : Int)
      · have g3 := eq_false s3.1
        have g4 := eq_true s3.2
        have e := hno fun h => by have := h.2.1 s3.1; omega
        refine Run ((ai (ai @eTm_eta (ai @eTy_eta @s1)) (ai (ai @g2 @g3) (ai @g4 @e)))) ?_; with_reducible repeat' (first | exact True.intro | refine Lf.mk ?_ ?_ | intro hb)
      · have hl : ¬ t.kind = 5 → t.labels.length = 0 := fun h => by have : ¬ 0 < (t.labels.length : Int) := fun h' => s3 ⟨h, h'⟩; omega
        have hk := ha.2 s2
        by_cases k5 : t.kind = 5
        · have g5 := eq_true k5
          have n2 := eq_false (show ¬ t.kind = 2 by omega)
          have n3 := eq_false (show ¬ t.kind = 3 by omega)
          have em : mostK t.kind = 0 := by simp [mostK, k5]
          by_cases c : t.n = 0
          · have gc := eq_true c
            have hm : 0 ≤ t.n ∧ t.n ≤ mostK t.kind := by rw [em]; omega
            have kn : ¬ nmK t.kind := by unfold nmK; omega
            have k4 : ¬ t.kind = 4 := by omega
            have gN : shN t = false := decide_eq_false fun h => h.elim kn k4
            by_cases hnm : t.name = ⟨#[]⟩
            · have gm := eq_true hnm
              have hn : NdNm t := by unfold NdNm; rw [if_neg kn]; exact .inr hnm
              by_cases k7 : tyK t.kind
              · have gT : shT t = true := decide_eq_true k7
                have e : decide (TyOk t.ty) = decide (NdOk t) := decide_eq_decide.2 ⟨fun h => ⟨hk, hl, hm, hn, by unfold NdTy; rw [if_pos k7]; exact h⟩, fun h => by have := h.2.2.2.2; unfold NdTy at this; rwa [if_pos k7] at this⟩
                refine Run ((ai (ai (ai @eTm_eta @eTy_eta) (ai @s1 (ai @g2 @g5))) (ai (ai @n2 (ai @n3 @gc)) (ai @gN (ai @gm @gT))))) ?_; with_reducible repeat' (first | exact True.intro | refine Lf.mk ?_ ?_ | intro hb)
                refine Cal ((ai @eTm_eta @eTy_eta)) (implTyOk_ok t.ty ho.2.2.2.1 hzt) ?_
                refine Run ((ai @eTm_eta (ai @eTy_eta @e))) ?_; with_reducible repeat' (first | exact True.intro | refine Lf.mk ?_ ?_ | intro hb)
              · have gT : shT t = false := decide_eq_false k7
                have e : decide (zeroTy t.ty) = decide (NdOk t) := decide_eq_decide.2 ⟨fun h => ⟨hk, hl, hm, hn, by unfold NdTy; rw [if_neg k7]; exact h⟩, fun h => by have := h.2.2.2.2; unfold NdTy at this; rwa [if_neg k7] at this⟩
                refine Run ((ai (ai (ai @eTm_eta @eTy_eta) (ai @s1 (ai @g2 @g5))) (ai (ai @n2 (ai @n3 @gc)) (ai @gN (ai @gm @gT))))) ?_; with_reducible repeat' (first | exact True.intro | refine Lf.mk ?_ ?_ | intro hb)
                refine Cal ((ai @eTm_eta @eTy_eta)) (zeroTy_ok t.ty ho.2.2.2.1) ?_
                refine Run ((ai @eTm_eta (ai @eTy_eta @e))) ?_; with_reducible repeat' (first | exact True.intro | refine Lf.mk ?_ ?_ | intro hb)
            · have gm := eq_false hnm
              have e := hno fun h => by have := h.2.2.2.1; unfold NdNm at this; rw [if_neg kn] at this; exact this.elim k4 hnm
              refine Run ((ai (ai (ai @eTm_eta @eTy_eta) (ai @s1 (ai @g2 @g5))) (ai (ai @n2 (ai @n3 @gc)) (ai @gN (ai @gm @e))))) ?_; with_reducible repeat' (first | exact True.intro | refine Lf.mk ?_ ?_ | intro hb)
          · have gc := eq_false c
            have e := hno fun h => by have := h.2.2.1; rw [em] at this; omega
            refine Run ((ai (ai (ai @eTm_eta @eTy_eta) (ai @s1 @g2)) (ai (ai @g5 @n2) (ai @n3 (ai @gc @e))))) ?_; with_reducible repeat' (first | exact True.intro | refine Lf.mk ?_ ?_ | intro hb)
        · have g5 := eq_false k5
          have gl : (0 < (t.labels.length : Int)) = False := eq_false fun h => s3 ⟨k5, h⟩
          by_cases k2 : t.kind = 2
          · have n2 := eq_true k2
            have n3 := eq_false (show ¬ t.kind = 3 by omega)
            have em : mostK t.kind = 999 := by simp [mostK, k2]
            by_cases c1 : t.n < 0
            · have gc := eq_true c1
              have e := hno fun h => by have := h.2.2.1; omega
              refine Run ((ai (ai (ai @eTm_eta @eTy_eta) (ai @s1 (ai @g2 @g5))) (ai (ai @gl @n2) (ai @n3 (ai @gc @e))))) ?_; with_reducible repeat' (first | exact True.intro | refine Lf.mk ?_ ?_ | intro hb)
            · have gc := eq_false c1
              by_cases c2 : 999 < t.n
              · have gd := eq_true c2
                have e := hno fun h => by have := h.2.2.1; rw [em] at this; omega
                refine Run ((ai (ai (ai @eTm_eta @eTy_eta) (ai @s1 (ai @g2 @g5))) (ai (ai @gl (ai @n2 @n3)) (ai @gc (ai @gd @e))))) ?_; with_reducible repeat' (first | exact True.intro | refine Lf.mk ?_ ?_ | intro hb)
              · have gd := eq_false c2
                have hm : 0 ≤ t.n ∧ t.n ≤ mostK t.kind := by rw [em]; omega
                have kn : ¬ nmK t.kind := by unfold nmK; omega
                have k4 : ¬ t.kind = 4 := by omega
                have gN : shN t = false := decide_eq_false fun h => h.elim kn k4
                by_cases hnm : t.name = ⟨#[]⟩
                · have gm := eq_true hnm
                  have hn : NdNm t := by unfold NdNm; rw [if_neg kn]; exact .inr hnm
                  by_cases k7 : tyK t.kind
                  · have gT : shT t = true := decide_eq_true k7
                    have e : decide (TyOk t.ty) = decide (NdOk t) := decide_eq_decide.2 ⟨fun h => ⟨hk, hl, hm, hn, by unfold NdTy; rw [if_pos k7]; exact h⟩, fun h => by have := h.2.2.2.2; unfold NdTy at this; rwa [if_pos k7] at this⟩
                    refine Run ((ai (ai (ai @eTm_eta (ai @eTy_eta @s1)) (ai @g2 (ai @g5 @gl))) (ai (ai @n2 (ai @n3 @gc)) (ai (ai @gd @gN) (ai @gm @gT))))) ?_; with_reducible repeat' (first | exact True.intro | refine Lf.mk ?_ ?_ | intro hb)
                    refine Cal ((ai @eTm_eta @eTy_eta)) (implTyOk_ok t.ty ho.2.2.2.1 hzt) ?_
                    refine Run ((ai @eTm_eta (ai @eTy_eta @e))) ?_; with_reducible repeat' (first | exact True.intro | refine Lf.mk ?_ ?_ | intro hb)
                  · have gT : shT t = false := decide_eq_false k7
                    have e : decide (zeroTy t.ty) = decide (NdOk t) := decide_eq_decide.2 ⟨fun h => ⟨hk, hl, hm, hn, by unfold NdTy; rw [if_neg k7]; exact h⟩, fun h => by have := h.2.2.2.2; unfold NdTy at this; rwa [if_neg k7] at this⟩
                    refine Run ((ai (ai (ai @eTm_eta (ai @eTy_eta @s1)) (ai @g2 (ai @g5 @gl))) (ai (ai @n2 (ai @n3 @gc)) (ai (ai @gd @gN) (ai @gm @gT))))) ?_; with_reducible repeat' (first | exact True.intro | refine Lf.mk ?_ ?_ | intro hb)
                    refine Cal ((ai @eTm_eta @eTy_eta)) (zeroTy_ok t.ty ho.2.2.2.1) ?_
                    refine Run ((ai @eTm_eta (ai @eTy_eta @e))) ?_; with_reducible repeat' (first | exact True.intro | refine Lf.mk ?_ ?_ | intro hb)
                · have gm := eq_false hnm
                  have e := hno fun h => by have := h.2.2.2.1; unfold NdNm at this; rw [if_neg kn] at this; exact this.elim k4 hnm
                  refine Run ((ai (ai (ai @eTm_eta (ai @eTy_eta @s1)) (ai @g2 (ai @g5 @gl))) (ai (ai @n2 (ai @n3 @gc)) (ai (ai @gd @gN) (ai @gm @e))))) ?_; with_reducible repeat' (first | exact True.intro | refine Lf.mk ?_ ?_ | intro hb)
          · have n2 := eq_false k2
            by_cases k3 : t.kind = 3
            · have n3 := eq_true k3
              have em : mostK t.kind = 1 := by simp [mostK, k3]
              by_cases c1 : t.n = 0
              · have gc := eq_true c1
                have hm : 0 ≤ t.n ∧ t.n ≤ mostK t.kind := by rw [em]; omega
                have kn : ¬ nmK t.kind := by unfold nmK; omega
                have k4 : ¬ t.kind = 4 := by omega
                have gN : shN t = false := decide_eq_false fun h => h.elim kn k4
                by_cases hnm : t.name = ⟨#[]⟩
                · have gm := eq_true hnm
                  have hn : NdNm t := by unfold NdNm; rw [if_neg kn]; exact .inr hnm
                  by_cases k7 : tyK t.kind
                  · have gT : shT t = true := decide_eq_true k7
                    have e : decide (TyOk t.ty) = decide (NdOk t) := decide_eq_decide.2 ⟨fun h => ⟨hk, hl, hm, hn, by unfold NdTy; rw [if_pos k7]; exact h⟩, fun h => by have := h.2.2.2.2; unfold NdTy at this; rwa [if_pos k7] at this⟩
                    refine Run ((ai (ai (ai @eTm_eta (ai @eTy_eta @s1)) (ai @g2 (ai @g5 @gl))) (ai (ai @n2 (ai @n3 @gc)) (ai @gN (ai @gm @gT))))) ?_; with_reducible repeat' (first | exact True.intro | refine Lf.mk ?_ ?_ | intro hb)
                    refine Cal ((ai @eTm_eta @eTy_eta)) (implTyOk_ok t.ty ho.2.2.2.1 hzt) ?_
                    refine Run ((ai @eTm_eta (ai @eTy_eta @e))) ?_; with_reducible repeat' (first | exact True.intro | refine Lf.mk ?_ ?_ | intro hb)
                  · have gT : shT t = false := decide_eq_false k7
                    have e : decide (zeroTy t.ty) = decide (NdOk t) := decide_eq_decide.2 ⟨fun h => ⟨hk, hl, hm, hn, by unfold NdTy; rw [if_neg k7]; exact h⟩, fun h => by have := h.2.2.2.2; unfold NdTy at this; rwa [if_neg k7] at this⟩
                    refine Run ((ai (ai (ai @eTm_eta (ai @eTy_eta @s1)) (ai @g2 (ai @g5 @gl))) (ai (ai @n2 (ai @n3 @gc)) (ai @gN (ai @gm @gT))))) ?_; with_reducible repeat' (first | exact True.intro | refine Lf.mk ?_ ?_ | intro hb)
                    refine Cal ((ai @eTm_eta @eTy_eta)) (zeroTy_ok t.ty ho.2.2.2.1) ?_
                    refine Run ((ai @eTm_eta (ai @eTy_eta @e))) ?_; with_reducible repeat' (first | exact True.intro | refine Lf.mk ?_ ?_ | intro hb)
                · have gm := eq_false hnm
                  have e := hno fun h => by have := h.2.2.2.1; unfold NdNm at this; rw [if_neg kn] at this; exact this.elim k4 hnm
                  refine Run ((ai (ai (ai @eTm_eta (ai @eTy_eta @s1)) (ai @g2 (ai @g5 @gl))) (ai (ai @n2 (ai @n3 @gc)) (ai @gN (ai @gm @e))))) ?_; with_reducible repeat' (first | exact True.intro | refine Lf.mk ?_ ?_ | intro hb)
              · have gc := eq_false c1
                by_cases c2 : t.n = 1
                · have gd := eq_true c2
                  have hm : 0 ≤ t.n ∧ t.n ≤ mostK t.kind := by rw [em]; omega
                  have kn : ¬ nmK t.kind := by unfold nmK; omega
                  have k4 : ¬ t.kind = 4 := by omega
                  have gN : shN t = false := decide_eq_false fun h => h.elim kn k4
                  by_cases hnm : t.name = ⟨#[]⟩
                  · have gm := eq_true hnm
                    have hn : NdNm t := by unfold NdNm; rw [if_neg kn]; exact .inr hnm
                    by_cases k7 : tyK t.kind
                    · have gT : shT t = true := decide_eq_true k7
                      have e : decide (TyOk t.ty) = decide (NdOk t) := decide_eq_decide.2 ⟨fun h => ⟨hk, hl, hm, hn, by unfold NdTy; rw [if_pos k7]; exact h⟩, fun h => by have := h.2.2.2.2; unfold NdTy at this; rwa [if_pos k7] at this⟩
                      refine Run ((ai (ai (ai @eTm_eta (ai @eTy_eta @s1)) (ai @g2 (ai @g5 @gl))) (ai (ai @n2 (ai @n3 @gc)) (ai (ai @gd @gN) (ai @gm @gT))))) ?_; with_reducible repeat' (first | exact True.intro | refine Lf.mk ?_ ?_ | intro hb)
                      refine Cal ((ai @eTm_eta @eTy_eta)) (implTyOk_ok t.ty ho.2.2.2.1 hzt) ?_
                      refine Run ((ai @eTm_eta (ai @eTy_eta @e))) ?_; with_reducible repeat' (first | exact True.intro | refine Lf.mk ?_ ?_ | intro hb)
                    · have gT : shT t = false := decide_eq_false k7
                      have e : decide (zeroTy t.ty) = decide (NdOk t) := decide_eq_decide.2 ⟨fun h => ⟨hk, hl, hm, hn, by unfold NdTy; rw [if_neg k7]; exact h⟩, fun h => by have := h.2.2.2.2; unfold NdTy at this; rwa [if_neg k7] at this⟩
                      refine Run ((ai (ai (ai @eTm_eta (ai @eTy_eta @s1)) (ai @g2 (ai @g5 @gl))) (ai (ai @n2 (ai @n3 @gc)) (ai (ai @gd @gN) (ai @gm @gT))))) ?_; with_reducible repeat' (first | exact True.intro | refine Lf.mk ?_ ?_ | intro hb)
                      refine Cal ((ai @eTm_eta @eTy_eta)) (zeroTy_ok t.ty ho.2.2.2.1) ?_
                      refine Run ((ai @eTm_eta (ai @eTy_eta @e))) ?_; with_reducible repeat' (first | exact True.intro | refine Lf.mk ?_ ?_ | intro hb)
                  · have gm := eq_false hnm
                    have e := hno fun h => by have := h.2.2.2.1; unfold NdNm at this; rw [if_neg kn] at this; exact this.elim k4 hnm
                    refine Run ((ai (ai (ai @eTm_eta (ai @eTy_eta @s1)) (ai @g2 (ai @g5 @gl))) (ai (ai @n2 (ai @n3 @gc)) (ai (ai @gd @gN) (ai @gm @e))))) ?_; with_reducible repeat' (first | exact True.intro | refine Lf.mk ?_ ?_ | intro hb)
                · have gd := eq_false c2
                  have e := hno fun h => by have := h.2.2.1; rw [em] at this; omega
                  refine Run ((ai (ai (ai @eTm_eta @eTy_eta) (ai @s1 (ai @g2 @g5))) (ai (ai @gl (ai @n2 @n3)) (ai @gc (ai @gd @e))))) ?_; with_reducible repeat' (first | exact True.intro | refine Lf.mk ?_ ?_ | intro hb)
            · have n3 := eq_false k3
              have em : mostK t.kind = 0 := by simp [mostK, k2, k3]
              by_cases c : t.n = 0
              · have gc := eq_true c
                have hm : 0 ≤ t.n ∧ t.n ≤ mostK t.kind := by rw [em]; omega
                by_cases k4 : t.kind = 4
                · have g4 := eq_true k4
                  have gN : shN t = true := decide_eq_true (.inr k4)
                  have kn : ¬ nmK t.kind := by unfold nmK; omega
                  have hn : NdNm t := by unfold NdNm; rw [if_neg kn]; exact .inl k4
                  by_cases k7 : tyK t.kind
                  · have gT : shT t = true := decide_eq_true k7
                    have e : decide (TyOk t.ty) = decide (NdOk t) := decide_eq_decide.2 ⟨fun h => ⟨hk, hl, hm, hn, by unfold NdTy; rw [if_pos k7]; exact h⟩, fun h => by have := h.2.2.2.2; unfold NdTy at this; rwa [if_pos k7] at this⟩
                    refine Run ((ai (ai (ai @eTm_eta (ai @eTy_eta @s1)) (ai @g2 (ai @g5 @gl))) (ai (ai @n2 (ai @n3 @gc)) (ai @g4 (ai @gN @gT))))) ?_; with_reducible repeat' (first | exact True.intro | refine Lf.mk ?_ ?_ | intro hb)
                    refine Cal ((ai @eTm_eta @eTy_eta)) (implTyOk_ok t.ty ho.2.2.2.1 hzt) ?_
                    refine Run ((ai @eTm_eta (ai @eTy_eta @e))) ?_; with_reducible repeat' (first | exact True.intro | refine Lf.mk ?_ ?_ | intro hb)
                  · have gT : shT t = false := decide_eq_false k7
                    have e : decide (zeroTy t.ty) = decide (NdOk t) := decide_eq_decide.2 ⟨fun h => ⟨hk, hl, hm, hn, by unfold NdTy; rw [if_neg k7]; exact h⟩, fun h => by have := h.2.2.2.2; unfold NdTy at this; rwa [if_neg k7] at this⟩
                    refine Run ((ai (ai (ai @eTm_eta (ai @eTy_eta @s1)) (ai @g2 (ai @g5 @gl))) (ai (ai @n2 (ai @n3 @gc)) (ai @g4 (ai @gN @gT))))) ?_; with_reducible repeat' (first | exact True.intro | refine Lf.mk ?_ ?_ | intro hb)
                    refine Cal ((ai @eTm_eta @eTy_eta)) (zeroTy_ok t.ty ho.2.2.2.1) ?_
                    refine Run ((ai @eTm_eta (ai @eTy_eta @e))) ?_; with_reducible repeat' (first | exact True.intro | refine Lf.mk ?_ ?_ | intro hb)
                · have g4 := eq_false k4
                  by_cases kn : nmK t.kind
                  · have gN : shN t = true := decide_eq_true (.inl kn)
                    by_cases hnm : NameOk t.name
                    · have gm := eq_true hnm
                      have hn : NdNm t := by unfold NdNm; rw [if_pos kn]; exact hnm
                      refine Run ((ai (ai (ai @eTm_eta @eTy_eta) (ai @s1 (ai @g2 @g5))) (ai (ai @gl (ai @n2 @n3)) (ai @gc (ai @g4 @gN))))) ?_; with_reducible repeat' (first | exact True.intro | refine Lf.mk ?_ ?_ | intro hb)
                      refine Cal ((ai @eTm_eta @eTy_eta)) (implName_ok t.name (by have := ho.2.1; unfold okS at this; omega)) ?_
                      by_cases k7 : tyK t.kind
                      · have gT : shT t = true := decide_eq_true k7
                        have e : decide (TyOk t.ty) = decide (NdOk t) := decide_eq_decide.2 ⟨fun h => ⟨hk, hl, hm, hn, by unfold NdTy; rw [if_pos k7]; exact h⟩, fun h => by have := h.2.2.2.2; unfold NdTy at this; rwa [if_pos k7] at this⟩
                        refine Run ((ai (ai (ai @eTm_eta (ai @eTy_eta @s1)) (ai @g2 (ai @g5 @gl))) (ai (ai @n2 (ai @n3 @gc)) (ai (ai @g4 @gN) (ai @gm @gT))))) ?_; with_reducible repeat' (first | exact True.intro | refine Lf.mk ?_ ?_ | intro hb)
                        refine Cal ((ai @eTm_eta @eTy_eta)) (implTyOk_ok t.ty ho.2.2.2.1 hzt) ?_
                        refine Run ((ai @eTm_eta (ai @eTy_eta @e))) ?_; with_reducible repeat' (first | exact True.intro | refine Lf.mk ?_ ?_ | intro hb)
                      · have gT : shT t = false := decide_eq_false k7
                        have e : decide (zeroTy t.ty) = decide (NdOk t) := decide_eq_decide.2 ⟨fun h => ⟨hk, hl, hm, hn, by unfold NdTy; rw [if_neg k7]; exact h⟩, fun h => by have := h.2.2.2.2; unfold NdTy at this; rwa [if_neg k7] at this⟩
                        refine Run ((ai (ai (ai @eTm_eta (ai @eTy_eta @s1)) (ai @g2 (ai @g5 @gl))) (ai (ai @n2 (ai @n3 @gc)) (ai (ai @g4 @gN) (ai @gm @gT))))) ?_; with_reducible repeat' (first | exact True.intro | refine Lf.mk ?_ ?_ | intro hb)
                        refine Cal ((ai @eTm_eta @eTy_eta)) (zeroTy_ok t.ty ho.2.2.2.1) ?_
                        refine Run ((ai @eTm_eta (ai @eTy_eta @e))) ?_; with_reducible repeat' (first | exact True.intro | refine Lf.mk ?_ ?_ | intro hb)
                    · have gm := eq_false hnm
                      have e := hno fun h => by have := h.2.2.2.1; unfold NdNm at this; rw [if_pos kn] at this; exact hnm this
                      refine Run ((ai (ai (ai @eTm_eta @eTy_eta) (ai @s1 (ai @g2 @g5))) (ai (ai @gl (ai @n2 @n3)) (ai @gc (ai @g4 @gN))))) ?_; with_reducible repeat' (first | exact True.intro | refine Lf.mk ?_ ?_ | intro hb)
                      refine Cal ((ai @eTm_eta @eTy_eta)) (implName_ok t.name (by have := ho.2.1; unfold okS at this; omega)) ?_
                      refine Run ((ai (ai (ai @eTm_eta (ai @eTy_eta @s1)) (ai @g2 (ai @g5 @gl))) (ai (ai @n2 (ai @n3 @gc)) (ai (ai @g4 @gN) (ai @gm @e))))) ?_; with_reducible repeat' (first | exact True.intro | refine Lf.mk ?_ ?_ | intro hb)
                  · have gN : shN t = false := decide_eq_false fun h => h.elim kn k4
                    by_cases hnm : t.name = ⟨#[]⟩
                    · have gm := eq_true hnm
                      have hn : NdNm t := by unfold NdNm; rw [if_neg kn]; exact .inr hnm
                      by_cases k7 : tyK t.kind
                      · have gT : shT t = true := decide_eq_true k7
                        have e : decide (TyOk t.ty) = decide (NdOk t) := decide_eq_decide.2 ⟨fun h => ⟨hk, hl, hm, hn, by unfold NdTy; rw [if_pos k7]; exact h⟩, fun h => by have := h.2.2.2.2; unfold NdTy at this; rwa [if_pos k7] at this⟩
                        refine Run ((ai (ai (ai @eTm_eta (ai @eTy_eta @s1)) (ai @g2 (ai @g5 @gl))) (ai (ai @n2 (ai @n3 @gc)) (ai @gN (ai @gm @gT))))) ?_; with_reducible repeat' (first | exact True.intro | refine Lf.mk ?_ ?_ | intro hb)
                        refine Cal ((ai @eTm_eta @eTy_eta)) (implTyOk_ok t.ty ho.2.2.2.1 hzt) ?_
                        refine Run ((ai @eTm_eta (ai @eTy_eta @e))) ?_; with_reducible repeat' (first | exact True.intro | refine Lf.mk ?_ ?_ | intro hb)
                      · have gT : shT t = false := decide_eq_false k7
                        have e : decide (zeroTy t.ty) = decide (NdOk t) := decide_eq_decide.2 ⟨fun h => ⟨hk, hl, hm, hn, by unfold NdTy; rw [if_neg k7]; exact h⟩, fun h => by have := h.2.2.2.2; unfold NdTy at this; rwa [if_neg k7] at this⟩
                        refine Run ((ai (ai (ai @eTm_eta (ai @eTy_eta @s1)) (ai @g2 (ai @g5 @gl))) (ai (ai @n2 (ai @n3 @gc)) (ai @gN (ai @gm @gT))))) ?_; with_reducible repeat' (first | exact True.intro | refine Lf.mk ?_ ?_ | intro hb)
                        refine Cal ((ai @eTm_eta @eTy_eta)) (zeroTy_ok t.ty ho.2.2.2.1) ?_
                        refine Run ((ai @eTm_eta (ai @eTy_eta @e))) ?_; with_reducible repeat' (first | exact True.intro | refine Lf.mk ?_ ?_ | intro hb)
                    · have gm := eq_false hnm
                      have e := hno fun h => by have := h.2.2.2.1; unfold NdNm at this; rw [if_neg kn] at this; exact this.elim k4 hnm
                      refine Run ((ai (ai (ai @eTm_eta (ai @eTy_eta @s1)) (ai @g2 (ai @g5 @gl))) (ai (ai @n2 (ai @n3 @gc)) (ai @gN (ai @gm @e))))) ?_; with_reducible repeat' (first | exact True.intro | refine Lf.mk ?_ ?_ | intro hb)
              · have gc := eq_false c
                have e := hno fun h => by have := h.2.2.1; rw [em] at this; omega
                refine Run ((ai (ai (ai @eTm_eta @eTy_eta) (ai @s1 (ai @g2 @g5))) (ai (ai @gl @n2) (ai @n3 (ai @gc @e))))) ?_; with_reducible repeat' (first | exact True.intro | refine Lf.mk ?_ ?_ | intro hb)
    · have g2 := eq_false s2
      have e := hno fun h => s2 (ha.1 h.1)
      refine Run ((ai (ai @eTm_eta @eTy_eta) (ai @s1 (ai @g2 @e)))) ?_; with_reducible repeat' (first | exact True.intro | refine Lf.mk ?_ ?_ | intro hb)
  · have g1 : shO t = false := by simpa using s1
    have e := hno (shO_no g1)
    refine Run ((ai (ai @eTm_eta @eTy_eta) (ai @g1 @e))) ?_; with_reducible repeat' (first | exact True.intro | refine Lf.mk ?_ ?_ | intro hb)

end Go.VC.T
/- Forms of terms, terms of normal queries: the program's side. -/
namespace Go.VC
open Go
theorem zTm_arg {v a : Tm} (h : a ∈ v.args) : zTm a ≤ zTm v := by
  have := zL_mem (z := zTm) h
  rw [zTm_eta v]; omega
end Go.VC
namespace Go.VC.T
open Go Go.VC Go.Proofs Go.VC.F
def fc74A80 := (ai (ai (ai (ai (ai sz3 ag3) (ai zv3 un3)) (ai (ai sz4 ag4) (ai zv4 un4))) (ai (ai (ai sz44 ag44) (ai zv44 sb44)) (ai (ai un44 el44) (ai ap44 (ai sz46 ag46))))) (ai (ai (ai (ai zv46 fl46_0) (ai fl46_1 fl46_2)) (ai (ai fl46_3 fl46_4) (ai fl46_5 pl46))) (ai (ai (ai sz77 ag77) (ai zv77 un77)) (ai (ai okf74 okf99) (ai sz9 (ai sz43 sz25))))))
theorem termForm_of (t : Tm) (h : okTm (2^20) t) (hz : zTm t ≤ 2^40) (H : ∀ u ∈ t.args, ∀ r : List IV, FnP Tryz.prog 74 [.c (.im (.pt (eTm u ++ r)))] (bT (decide (TmF u)))) (r : List IV) : FnS Tryz.prog 74 [] [.c (.im (.pt (eTm t ++ r)))] [] (bT (decide (TmF t))) := by
  refine FnS.go [0, 2, 3, 6, 11, 12, 13, 22] [] Tryz.func74 rfl (fun kt kz => ?_)
  have fcx := fc74A80
  simp only [Tryz.f74]
  have ho := okTm_iff.1 h
  have hln := ho.2.2.2.2.2.1
  have hno : ¬ TmF t → decide (TmF t) = false := decide_eq_false
  refine Run ((ai @eTm_eta @eTy_eta)) ?_; with_reducible repeat' (first | exact True.intro | refine Lf.mk ?_ ?_ | intro hb)
  refine Cal ((ai @eTm_eta @eTy_eta)) (nodeForm_ok t h hz r) ?_
  by_cases hn : NdOk t
  · have gn := eq_true hn
    refine Run ((ai @eTm_eta (ai @eTy_eta @gn))) ?_; with_reducible repeat' (first | exact True.intro | refine Lf.mk ?_ ?_ | intro hb)
    refine Trn (α := Nat) [2, 3, 12, 13, 14, 15, 16, 17, 18, 19, 20, 21, 22, 23] (fun i => [(12, iT i)]) (fun i => []) (fun i => i ≤ t.args.length ∧ ∀ a ∈ t.args.take i, TmF a) (fun i => t.args.length - i) (0) (⟨Nat.zero_le _, fun s hs => by simp at hs⟩) ((ai @eTm_eta @eTy_eta)) ?_; intro lx hI; obtain i := lx; (try simp only [List.nil_append, List.cons_append] at hI ⊢)
    by_cases hlt : lx < t.args.length
    · refine Run ((ai @eTm_eta (ai @eTy_eta @hlt))) ?_; with_reducible repeat' (first | exact True.intro | refine Lf.mk ?_ ?_ | intro hb)
      refine Cal ((ai @eTm_eta @eTy_eta)) (H _ (List.getElem_mem hlt) _) ?_
      by_cases hf : TmF t.args[lx]
      · have gf := eq_true hf
        refine Run ((ai @eTm_eta (ai @eTy_eta @gf))) ?_; with_reducible repeat' (first | exact True.intro | refine Lf.mk ?_ ?_ | intro hb)
        exact Nxt ((ai @eTm_eta @eTy_eta)) (lx + 1) (⟨by omega, ball_take hlt hI.2 hf⟩) (by first | omega | (simp; omega))
      · have gf := eq_false hf
        have e := hno fun h => hf ((TmF_eta t).1 h |>.2 _ (List.getElem_mem hlt))
        refine Run ((ai (ai @eTm_eta @eTy_eta) (ai @gf @e))) ?_; with_reducible repeat' (first | exact True.intro | refine Lf.mk ?_ ?_ | intro hb)
    · have e : decide (TmF t) = true := decide_eq_true ((TmF_eta t).2 ⟨hn, ball_end (by omega) hI.2⟩)
      refine Run ((ai (ai @eTm_eta @eTy_eta) (ai @hlt @e))) ?_; with_reducible repeat' (first | exact True.intro | refine Lf.mk ?_ ?_ | intro hb)
  · have gn := eq_false hn
    have e := hno fun h => hn ((TmF_eta t).1 h).1
    refine Run ((ai (ai @eTm_eta @eTy_eta) (ai @gn @e))) ?_; with_reducible repeat' (first | exact True.intro | refine Lf.mk ?_ ?_ | intro hb)

theorem termForm_ok (t : Tm) (h : okTm (2^20) t) (hz : zTm t ≤ 2^40) (r : List IV) : FnP Tryz.prog 74 [.c (.im (.pt (eTm t ++ r)))] (bT (decide (TmF t))) :=
  termForm_of t h hz (fun u hu r => termForm_ok u ((okTm_iff.1 h).2.2.2.2.2.2 u hu) (by have := zTm_arg hu; omega) r) r
termination_by SizeOf.sizeOf t
decreasing_by exact Tm.mem hu
def fc75A80 := (ai (ai (ai (ai (ai sz3 ag3) (ai zv3 un3)) (ai (ai sz4 ag4) (ai zv4 un4))) (ai (ai (ai sz44 ag44) (ai zv44 sb44)) (ai (ai un44 el44) (ai ap44 sz46)))) (ai (ai (ai (ai ag46 zv46) (ai fl46_0 fl46_1)) (ai (ai fl46_2 fl46_3) (ai fl46_4 fl46_5))) (ai (ai (ai pl46 sz77) (ai ag77 zv77)) (ai (ai un77 okf75) (ai sz9 (ai sz43 sz25))))))
theorem baseTerm_of (t : Tm) (h : okTm (2^20) t) (H : ∀ u ∈ t.args, ∀ (r : List IV) (f : Bool), FnP Tryz.prog 75 [.c (.im (.pt (eTm u ++ r))), bT f] (bT (decide (BsT f u)))) (r : List IV) (f : Bool) : FnS Tryz.prog 75 [] [.c (.im (.pt (eTm t ++ r))), bT f] [] (bT (decide (BsT f t))) := by
  refine FnS.go [0, 1, 4, 5, 9, 10, 13, 16, 33, 38, 39, 40, 54] [] Tryz.func75 rfl (fun kt kz => ?_)
  have fcx := fc75A80
  simp only [Tryz.f75]
  have ho := okTm_iff.1 h
  have hln := ho.2.2.2.2.2.1
  have hno : ¬ BsT f t → decide (BsT f t) = false := decide_eq_false
  by_cases k1 : t.kind = 1
  · have g1 := eq_true k1
    have e : decide (BsT f t) = f := by
      rw [Bool.eq_iff_iff, decide_eq_true_eq, BsT_eta]
      simp [k1]
    refine Run ((ai (ai @eTm_eta @eTy_eta) (ai @g1 @e))) ?_; with_reducible repeat' (first | exact True.intro | refine Lf.mk ?_ ?_ | intro hb)
  · have g1 := eq_false k1
    by_cases k13 : t.kind = 13
    · have g13 := eq_true k13
      have e := hno fun h => by rw [BsT_eta] at h; rcases h with h | h; exact k1 h.1; exact h.2.1 k13
      refine Run ((ai (ai @eTm_eta @eTy_eta) (ai @g1 (ai @g13 @e)))) ?_; with_reducible repeat' (first | exact True.intro | refine Lf.mk ?_ ?_ | intro hb)
    · have g13 := eq_false k13
      by_cases k14 : t.kind = 14
      · have g14 := eq_true k14
        have e := hno fun h => by rw [BsT_eta] at h; rcases h with h | h; exact k1 h.1; exact h.2.2.1 k14
        refine Run ((ai (ai @eTm_eta (ai @eTy_eta @g1)) (ai @g13 (ai @g14 @e)))) ?_; with_reducible repeat' (first | exact True.intro | refine Lf.mk ?_ ?_ | intro hb)
      · have g14 := eq_false k14
        have hiff : (t.kind = 10 → ∃ h : 0 < t.args.length, t.args[0].kind = 12) → (BsT f t ↔ ∀ a ∈ t.args, BsT (decide (t.kind = 6)) a) := fun h10 => by
          rw [BsT_eta]
          exact ⟨fun h => h.elim (fun h => absurd h.1 k1) fun h => h.2.2.2.2, fun h => .inr ⟨k1, k13, k14, h10, h⟩⟩
        by_cases k10 : t.kind = 10
        · have g10 := eq_true k10
          by_cases h0 : 0 < t.args.length
          · have hz0 : ((t.args.length : Int) = 0) = False := eq_false (by omega)
            by_cases k12 : t.args[0].kind = 12
            · have g12 := eq_true k12
              have hi := hiff fun _ => ⟨h0, k12⟩
              refine Run ((ai (ai (ai @eTm_eta @eTy_eta) (ai @g1 @g13)) (ai (ai @g14 @g10) (ai @h0 (ai @hz0 @g12))))) ?_; with_reducible repeat' (first | exact True.intro | refine Lf.mk ?_ ?_ | intro hb)
              refine Trn (α := Nat) [4, 5, 39, 40, 41, 42, 43, 44, 45, 46, 47, 48, 49, 50, 51, 52, 53, 54, 55] (fun i => [(39, iT i)]) (fun i => []) (fun i => i ≤ t.args.length ∧ ∀ a ∈ t.args.take i, BsT (decide (t.kind = 6)) a) (fun i => t.args.length - i) (0) (⟨Nat.zero_le _, fun s hs => by simp at hs⟩) ((ai @eTm_eta @eTy_eta)) ?_; intro lx hI; obtain i := lx; (try simp only [List.nil_append, List.cons_append] at hI ⊢)
              by_cases hlt : lx < t.args.length
              · refine Run ((ai @eTm_eta (ai @eTy_eta @hlt))) ?_; with_reducible repeat' (first | exact True.intro | refine Lf.mk ?_ ?_ | intro hb)
                refine Cal ((ai @eTm_eta @eTy_eta)) (H _ (List.getElem_mem hlt) _ _) ?_
                by_cases hf : BsT (decide (t.kind = 6)) t.args[lx]
                · have gf := eq_true hf
                  refine Run ((ai @eTm_eta (ai @eTy_eta @gf))) ?_; with_reducible repeat' (first | exact True.intro | refine Lf.mk ?_ ?_ | intro hb)
                  exact Nxt ((ai @eTm_eta @eTy_eta)) (lx + 1) (⟨by omega, ball_take hlt hI.2 hf⟩) (by first | omega | (simp; omega))
                · have gf := eq_false hf
                  have e := hno fun h => hf (hi.1 h _ (List.getElem_mem hlt))
                  refine Run ((ai (ai @eTm_eta @eTy_eta) (ai @gf @e))) ?_; with_reducible repeat' (first | exact True.intro | refine Lf.mk ?_ ?_ | intro hb)
              · have e : decide (BsT f t) = true := decide_eq_true (hi.2 (ball_end (by omega) hI.2))
                refine Run ((ai (ai @eTm_eta @eTy_eta) (ai @hlt @e))) ?_; with_reducible repeat' (first | exact True.intro | refine Lf.mk ?_ ?_ | intro hb)
            · have g12 := eq_false k12
              have e := hno fun h => by rw [BsT_eta] at h; rcases h with h | h; exact k1 h.1; obtain ⟨_, h⟩ := h.2.2.2.1 k10; exact k12 h
              refine Run ((ai (ai (ai @eTm_eta @eTy_eta) (ai @g1 (ai @g13 @g14))) (ai (ai @g10 @h0) (ai @hz0 (ai @g12 @e))))) ?_; with_reducible repeat' (first | exact True.intro | refine Lf.mk ?_ ?_ | intro hb)
          · have hz0 : ((t.args.length : Int) = 0) = True := eq_true (by omega)
            have e := hno fun h => by rw [BsT_eta] at h; rcases h with h | h; exact k1 h.1; obtain ⟨h, _⟩ := h.2.2.2.1 k10; exact h0 h
            refine Run ((ai (ai (ai @eTm_eta @eTy_eta) (ai @g1 @g13)) (ai (ai @g14 @g10) (ai @hz0 @e)))) ?_; with_reducible repeat' (first | exact True.intro | refine Lf.mk ?_ ?_ | intro hb)
        · have g10 := eq_false k10
          have hi := hiff fun h => absurd h k10
          refine Run ((ai (ai @eTm_eta (ai @eTy_eta @g1)) (ai @g13 (ai @g14 @g10)))) ?_; with_reducible repeat' (first | exact True.intro | refine Lf.mk ?_ ?_ | intro hb)
          refine Trn (α := Nat) [4, 5, 39, 40, 41, 42, 43, 44, 45, 46, 47, 48, 49, 50, 51, 52, 53, 54, 55] (fun i => [(39, iT i)]) (fun i => []) (fun i => i ≤ t.args.length ∧ ∀ a ∈ t.args.take i, BsT (decide (t.kind = 6)) a) (fun i => t.args.length - i) (0) (⟨Nat.zero_le _, fun s hs => by simp at hs⟩) ((ai @eTm_eta @eTy_eta)) ?_; intro lx hI; obtain i := lx; (try simp only [List.nil_append, List.cons_append] at hI ⊢)
          by_cases hlt : lx < t.args.length
          · refine Run ((ai @eTm_eta (ai @eTy_eta @hlt))) ?_; with_reducible repeat' (first | exact True.intro | refine Lf.mk ?_ ?_ | intro hb)
            refine Cal ((ai @eTm_eta @eTy_eta)) (H _ (List.getElem_mem hlt) _ _) ?_
            by_cases hf : BsT (decide (t.kind = 6)) t.args[lx]
            · have gf := eq_true hf
              refine Run ((ai @eTm_eta (ai @eTy_eta @gf))) ?_; with_reducible repeat' (first | exact True.intro | refine Lf.mk ?_ ?_ | intro hb)
              exact Nxt ((ai @eTm_eta @eTy_eta)) (lx + 1) (⟨by omega, ball_take hlt hI.2 hf⟩) (by first | omega | (simp; omega))
            · have gf := eq_false hf
              have e := hno fun h => hf (hi.1 h _ (List.getElem_mem hlt))
              refine Run ((ai (ai @eTm_eta @eTy_eta) (ai @gf @e))) ?_; with_reducible repeat' (first | exact True.intro | refine Lf.mk ?_ ?_ | intro hb)
          · have e : decide (BsT f t) = true := decide_eq_true (hi.2 (ball_end (by omega) hI.2))
            refine Run ((ai (ai @eTm_eta @eTy_eta) (ai @hlt @e))) ?_; with_reducible repeat' (first | exact True.intro | refine Lf.mk ?_ ?_ | intro hb)

theorem baseTerm_ok (t : Tm) (h : okTm (2^20) t) (r : List IV) (f : Bool) : FnP Tryz.prog 75 [.c (.im (.pt (eTm t ++ r))), bT f] (bT (decide (BsT f t))) :=
  baseTerm_of t h (fun u hu r f => baseTerm_ok u ((okTm_iff.1 h).2.2.2.2.2.2 u hu) r f) r f
termination_by SizeOf.sizeOf t
decreasing_by exact Tm.mem hu
end Go.VC.T
/- What types terms have: the program's function by its parts. -/
namespace Go.VC
open Go
theorem okT_some {o : Option Ty} {t : Ty} (h : okT o = some t) : o = some t ∧ TyOk t := by
  cases o with
  | none => cases h
  | some u =>
    by_cases hu : TyOk u
    · have : okT (some u) = some u := by simp [okT, hu]
      rw [this] at h
      obtain rfl := Option.some.inj h
      exact ⟨rfl, hu⟩
    · have : okT (some u) = none := by simp [okT, hu]
      rw [this] at h
      cases h
theorem okT_of {o : Option Ty} {t : Ty} (h : o = some t) (ht : TyOk t) : okT o = some t := by subst h; simp [okT, ht]
theorem okT_no {o : Option Ty} {t : Ty} (h : o = some t) (ht : ¬ TyOk t) : okT o = none := by subst h; simp [okT, ht]
theorem allT_app {xs : List (Option Ty)} {l : List Ty} {t : Ty} (h : allT xs = some l) : allT (xs ++ [some t]) = some (l ++ [t]) := by
  induction xs generalizing l with
  | nil => obtain rfl := Option.some.inj h; rfl
  | cons o r ih =>
    simp only [allT, List.cons_append] at h ⊢
    obtain ⟨u, rfl, h⟩ := Option.bind_eq_some_iff.1 h
    obtain ⟨m, hm, rfl⟩ := Option.map_eq_some_iff.1 h
    simp [ih hm]
theorem allT_no {xs : List (Option Ty)} (h : none ∈ xs) : allT xs = none := by
  induction xs with
  | nil => cases h
  | cons o r ih =>
    simp only [allT]
    rcases List.mem_cons.1 h with h | h
    · rw [← h]; rfl
    · rw [ih h]; cases o <;> rfl
theorem allT_len {xs : List (Option Ty)} {l : List Ty} (h : allT xs = some l) : l.length = xs.length := by
  induction xs generalizing l with
  | nil => obtain rfl := Option.some.inj h; rfl
  | cons o r ih =>
    simp only [allT] at h
    obtain ⟨u, rfl, h⟩ := Option.bind_eq_some_iff.1 h
    obtain ⟨m, hm, rfl⟩ := Option.map_eq_some_iff.1 h
    simp [ih hm]
theorem allT_mem {xs : List (Option Ty)} {l : List Ty} (h : allT xs = some l) {t : Ty} (ht : t ∈ l) : some t ∈ xs := by
  induction xs generalizing l with
  | nil => obtain rfl := Option.some.inj h; cases ht
  | cons o r ih =>
    simp only [allT] at h
    obtain ⟨u, rfl, h⟩ := Option.bind_eq_some_iff.1 h
    obtain ⟨m, hm, rfl⟩ := Option.map_eq_some_iff.1 h
    rcases List.mem_cons.1 ht with rfl | ht
    · exact List.mem_cons_self
    · exact List.mem_cons_of_mem _ (ih hm ht)
end Go.VC
namespace Go.VC.T
open Go Go.VC Go.Proofs Go.VC.F
def fc76A86 := (ai (ai (ai (ai sz4 (ai ag4 zv4)) (ai (ai un4 sz43) (ai ag43 zv43))) (ai (ai (ai fl43_0 fl43_1) (ai fl43_2 pl43)) (ai (ai sz70 ag70) (ai zv70 sb70)))) (ai (ai (ai (ai un70 el70) (ai ap70 sz77)) (ai (ai ag77 zv77) (ai un77 sz119))) (ai (ai (ai ag119 zv119) (ai un119 okf95)) (ai (ai okf100 sz3) (ai sz25 sz41)))))
theorem of_a (Y : List IV) (ctx : List Decl) (e : Tm) (r : List IV) (t : Ty) (ho : okTy (2^20) t) (hz : zTy t ≤ 2^40) (H : FnP Tryz.prog 100 [.c (.im (.pt Y)), slT eDecl ctx, .c (.im (.pt (eTm e ++ r)))] (.tp [agT (eTy t), bT true])) : FnS Tryz.prog 76 [] [.c (.im (.pt Y)), slT eDecl ctx, .c (.im (.pt (eTm e ++ r)))] [] (.tp [agT (eTy t), bT (decide (TyOk t))]) := by
  refine FnS.go [0, 1, 2, 6, 7, 8, 9] [] Tryz.func76 rfl (fun kt kz => ?_)
  have fcx := fc76A86
  simp only [Tryz.f76]
  have dq : Dq [0, 1, 2, 3, 4, 5] [6, 7] 20 [[5], []] := ⟨⟩
  refine RunX ((ai @eTm_eta @eTy_eta)) ?_; with_reducible repeat' (first | exact True.intro | refine Lf.mk ?_ ?_ | intro hb)
  refine CalI ((ai @eTm_eta @eTy_eta)) (H) ?_
  refine RunX ((ai @eTm_eta @eTy_eta)) ?_; with_reducible repeat' (first | exact True.intro | refine Lf.mk ?_ ?_ | intro hb)
  refine ⟨rfl, rfl, ?_⟩
  refine RunX ((ai @eTm_eta @eTy_eta)) ?_; with_reducible repeat' (first | exact True.intro | refine Lf.mk ?_ ?_ | intro hb)
  refine Cal (@eTy_eta) (implTyOk_ok t ho hz) ?_
  refine RunX ((ai @eTm_eta @eTy_eta)) ?_; with_reducible repeat' (first | exact True.intro | refine Lf.mk ?_ ?_ | intro hb)
theorem of_b (Y : List IV) (ctx : List Decl) (e : Tm) (r : List IV) (t : Ty) (H : FnP Tryz.prog 100 [.c (.im (.pt Y)), slT eDecl ctx, .c (.im (.pt (eTm e ++ r)))] (.tp [agT (eTy t), bT false])) : FnS Tryz.prog 76 [] [.c (.im (.pt Y)), slT eDecl ctx, .c (.im (.pt (eTm e ++ r)))] [] (.tp [agT (eTy t), bT false]) := by
  refine FnS.go [0, 1, 2, 6, 7, 8, 9] [] Tryz.func76 rfl (fun kt kz => ?_)
  have fcx := fc76A86
  simp only [Tryz.f76]
  have dq : Dq [0, 1, 2, 3, 4, 5] [6, 7] 20 [[5], []] := ⟨⟩
  refine RunX ((ai @eTm_eta @eTy_eta)) ?_; with_reducible repeat' (first | exact True.intro | refine Lf.mk ?_ ?_ | intro hb)
  refine CalI ((ai @eTm_eta @eTy_eta)) (H) ?_
  refine RunX ((ai @eTm_eta @eTy_eta)) ?_; with_reducible repeat' (first | exact True.intro | refine Lf.mk ?_ ?_ | intro hb)
  refine ⟨rfl, rfl, ?_⟩
  refine RunX ((ai @eTm_eta @eTy_eta)) ?_; with_reducible repeat' (first | exact True.intro | refine Lf.mk ?_ ?_ | intro hb)
  first | refine ⟨rfl, rfl, ?_⟩ | refine ⟨rfl, ?_⟩
  refine RunX ((ai @eTm_eta @eTy_eta)) ?_; with_reducible repeat' (first | exact True.intro | refine Lf.mk ?_ ?_ | intro hb)
def fc118A86 := (ai (ai (ai (ai (ai sz3 (ai ag3 zv3)) (ai (ai un3 sz4) (ai ag4 zv4))) (ai (ai un4 (ai sz41 ag41)) (ai (ai zv41 sb41) (ai un41 el41)))) (ai (ai (ai ap41 (ai sz43 ag43)) (ai (ai zv43 fl43_0) (ai fl43_1 fl43_2))) (ai (ai pl43 (ai sz44 ag44)) (ai (ai zv44 sb44) (ai un44 el44))))) (ai (ai (ai (ai ap44 (ai sz46 ag46)) (ai (ai zv46 fl46_0) (ai fl46_1 fl46_2))) (ai (ai fl46_3 (ai fl46_4 fl46_5)) (ai (ai pl46 sz70) (ai ag70 zv70)))) (ai (ai (ai sb70 (ai un70 el70)) (ai (ai ap70 sz77) (ai ag77 zv77))) (ai (ai (ai un77 sz119) (ai ag119 zv119)) (ai (ai un119 okf76) (ai sz25 sz9))))))
theorem all_a (Y : List IV) (ctx : List Decl) (e : Tm) (r : List IV) (he : okTm (2^20) e) (q : Tm → Option Ty) (H : ∀ u ∈ e.args, ∀ r : List IV, TyRes Tryz.prog 76 [.c (.im (.pt Y)), slT eDecl ctx, .c (.im (.pt (eTm u ++ r)))] (q u)) (l : List Ty) (hl : allT (e.args.map q) = some l) : FnS Tryz.prog 118 [] [.c (.im (.pt Y)), slT eDecl ctx, .c (.im (.pt (eTm e ++ r)))] [] (.tp [slT eTy l, bT true]) := by
  refine FnS.go [0, 1, 2, 6, 7, 8, 9, 10, 11, 17, 18, 19, 34] [24] Tryz.func118 rfl (fun kt kz => ?_)
  have fcx := fc118A86
  simp only [Tryz.f118]
  have ho := okTm_iff.1 he
  have hln := ho.2.2.2.2.2.1
  have dx : Dx 13 12 10 := ⟨⟩
  have fl0 : ([] : List Ty).flatMap eTy = [] := rfl
  refine Run ((ai @eTm_eta @eTy_eta)) ?_; with_reducible repeat' (first | exact True.intro | refine Lf.mk ?_ ?_ | intro hb)
  refine Sm.share (24) (by simp -dsimp (maxSteps := 2000000) (disch := omega) only [vs, ↓Option.bind_some, ev1, ofV, scalarB, Kn, Kb, calleeOf, evLoad, ptr, evField, evFieldAddr, shift, ↓pt_at, ↓pt_at1, evExtract, evBin, evLen, evConv, cellsT, noS, Cell.has, Cell.hasN, Cell.anyN, toIV, toIV0, toIVs, ownC, srcM, Ob.own, Ob.esz, allSc, nilK, lenC, ownCell, isPtr, ptrNil, frzO, Cell.frz, Cell.keys, ↓reduceIte, reduceCtorEq, Nat.reduceEqDiff, Nat.reduceBEq, Nat.reduceBNe, Nat.reduceAdd, Nat.reduceMul, Nat.reduceSub, Nat.reduceLT, Nat.reduceLeDiff, Nat.reducePow, Int.reduceLT, Int.reduceLE, Int.reduceEq, Int.reduceNe, quietB, Nat.reduceMod, Int.reduceToNat, ne_eq, eq_self, exists_const, evBytes, byRow, byL, byStr_size, ifsz, ByteArray.size_append, Option.none_or, Option.some_or, evLook, keyD, fc118A86]) ?_; simp -dsimp (maxSteps := 2000000) (disch := omega) only [vs, ↓Option.bind_some, ev1, ofV, scalarB, Kn, Kb, calleeOf, evLoad, ptr, evField, evFieldAddr, shift, ↓pt_at, ↓pt_at1, evExtract, evBin, evLen, evConv, cellsT, noS, Cell.has, Cell.hasN, Cell.anyN, toIV, toIV0, toIVs, ownC, srcM, Ob.own, Ob.esz, allSc, nilK, lenC, ownCell, isPtr, ptrNil, frzO, Cell.frz, Cell.keys, ↓reduceIte, reduceCtorEq, Nat.reduceEqDiff, Nat.reduceBEq, Nat.reduceBNe, Nat.reduceAdd, Nat.reduceMul, Nat.reduceSub, Nat.reduceLT, Nat.reduceLeDiff, Nat.reducePow, Int.reduceLT, Int.reduceLE, Int.reduceEq, Int.reduceNe, quietB, Nat.reduceMod, Int.reduceToNat, ne_eq, eq_self, exists_const, evBytes, byRow, byL, byStr_size, ifsz, ByteArray.size_append, Option.none_or, Option.some_or, evLook, keyD, fc118A86, St.share]
  refine Trn (α := Nat × List Ty) [6, 7, 8, 9, 10, 11, 18, 19, 20, 21, 22, 23, 24, 25, 26, 27, 28, 29, 30, 31, 32, 33, 34, 35, 36, 37, 38, 39] (fun ⟨i, m⟩ => [(18, iT i), (8, .c (.os 24 m.length))]) (fun ⟨i, m⟩ => [(24, .vec 43 3 m.length (m.flatMap eTy) false)]) (fun ⟨i, m⟩ => i ≤ e.args.length ∧ m.length = i ∧ allT ((e.args.take i).map q) = some m) (fun ⟨i, m⟩ => e.args.length - i) ((0, [])) (⟨Nat.zero_le _, rfl, rfl⟩) ((ai @eTm_eta (ai @eTy_eta @fl0))) ?_; intro lx hI; obtain ⟨i, m⟩ := lx; (try simp only [List.nil_append, List.cons_append] at hI ⊢)
  by_cases hlt : i < e.args.length
  · cases hu : q e.args[i] with
    | none =>
      rw [allT_no (List.mem_map.2 ⟨_, List.getElem_mem hlt, hu⟩)] at hl
      cases hl
    | some t =>
      have hH := H _ (List.getElem_mem hlt)
      rw [hu] at hH
      have e1 : m.flatMap eTy ++ eTy t = (m ++ [t]).flatMap eTy := by rw [List.flatMap_append, flat_one]
      rw [eTy_eta t] at e1
      simp only [slI] at e1
      have e2 : m.length + 1 = (m ++ [t]).length := by simp
      refine RunX ((ai @eTm_eta (ai @eTy_eta @hlt))) ?_; with_reducible repeat' (first | exact True.intro | refine Lf.mk ?_ ?_ | intro hb)
      refine CalI ((ai @eTm_eta @eTy_eta)) ((hH _).yes) ?_
      refine RunX ((ai (ai @eTm_eta @eTy_eta) (ai @hlt (ai @e1 @e2)))) ?_; with_reducible repeat' (first | exact True.intro | refine Lf.mk ?_ ?_ | intro hb)
      refine ⟨rfl, rfl, ?_⟩
      refine RunX ((ai (ai @eTm_eta @eTy_eta) (ai @hlt (ai @e1 @e2)))) ?_; with_reducible repeat' (first | exact True.intro | refine Lf.mk ?_ ?_ | intro hb)
      exact Nxt ((ai (ai @eTm_eta @eTy_eta) (ai @e1 @e2))) ((i + 1, m ++ [t])) (⟨by omega, by rw [← e2]; have := hI.2.1; omega, by rw [take_at hlt, List.map_append]; show allT (_ ++ [q e.args[i]]) = _; rw [hu]; exact allT_app hI.2.2⟩) (by first | omega | (simp; omega))
  · have hm : m = l := by
      have := hI.2.2
      rw [List.take_of_length_le (by omega), hl] at this
      exact (Option.some.inj this).symm
    subst hm
    refine Run ((ai @eTm_eta (ai @eTy_eta @hlt))) ?_; with_reducible repeat' (first | exact True.intro | refine Lf.mk ?_ ?_ | intro hb)

end Go.VC.T
/- What types terms have: the program's function, its cases. -/
namespace Go.VC.T
open Go Go.VC Go.Proofs Go.VC.F
def fc118A87 := (ai (ai (ai (ai (ai sz3 (ai ag3 zv3)) (ai (ai un3 sz4) (ai ag4 zv4))) (ai (ai un4 (ai sz41 ag41)) (ai (ai zv41 sb41) (ai un41 el41)))) (ai (ai (ai ap41 (ai sz43 ag43)) (ai (ai zv43 fl43_0) (ai fl43_1 fl43_2))) (ai (ai pl43 (ai sz44 ag44)) (ai (ai zv44 sb44) (ai un44 el44))))) (ai (ai (ai (ai ap44 (ai sz46 ag46)) (ai (ai zv46 fl46_0) (ai fl46_1 fl46_2))) (ai (ai fl46_3 (ai fl46_4 fl46_5)) (ai (ai pl46 sz70) (ai ag70 zv70)))) (ai (ai (ai sb70 (ai un70 el70)) (ai (ai ap70 sz77) (ai ag77 zv77))) (ai (ai (ai un77 sz119) (ai ag119 zv119)) (ai (ai un119 okf76) (ai sz25 sz9))))))
theorem all_b (Y : List IV) (ctx : List Decl) (e : Tm) (r : List IV) (he : okTm (2^20) e) (q : Tm → Option Ty) (H : ∀ u ∈ e.args, ∀ r : List IV, TyRes Tryz.prog 76 [.c (.im (.pt Y)), slT eDecl ctx, .c (.im (.pt (eTm u ++ r)))] (q u)) (hl : allT (e.args.map q) = none) : FnS Tryz.prog 118 [] [.c (.im (.pt Y)), slT eDecl ctx, .c (.im (.pt (eTm e ++ r)))] [] (.tp [.c .nl, bT false]) := by
  refine FnS.go [0, 1, 2, 6, 7, 8, 9, 10, 11, 17, 18, 19, 34] [] Tryz.func118 rfl (fun kt kz => ?_)
  have fcx := fc118A87
  simp only [Tryz.f118]
  have ho := okTm_iff.1 he
  have hln := ho.2.2.2.2.2.1
  have dx : Dx 13 12 10 := ⟨⟩
  have fl0 : ([] : List Ty).flatMap eTy = [] := rfl
  refine Run ((ai @eTm_eta @eTy_eta)) ?_; with_reducible repeat' (first | exact True.intro | refine Lf.mk ?_ ?_ | intro hb)
  refine Sm.share (24) (by simp -dsimp (maxSteps := 2000000) (disch := omega) only [vs, ↓Option.bind_some, ev1, ofV, scalarB, Kn, Kb, calleeOf, evLoad, ptr, evField, evFieldAddr, shift, ↓pt_at, ↓pt_at1, evExtract, evBin, evLen, evConv, cellsT, noS, Cell.has, Cell.hasN, Cell.anyN, toIV, toIV0, toIVs, ownC, srcM, Ob.own, Ob.esz, allSc, nilK, lenC, ownCell, isPtr, ptrNil, frzO, Cell.frz, Cell.keys, ↓reduceIte, reduceCtorEq, Nat.reduceEqDiff, Nat.reduceBEq, Nat.reduceBNe, Nat.reduceAdd, Nat.reduceMul, Nat.reduceSub, Nat.reduceLT, Nat.reduceLeDiff, Nat.reducePow, Int.reduceLT, Int.reduceLE, Int.reduceEq, Int.reduceNe, quietB, Nat.reduceMod, Int.reduceToNat, ne_eq, eq_self, exists_const, evBytes, byRow, byL, byStr_size, ifsz, ByteArray.size_append, Option.none_or, Option.some_or, evLook, keyD, fc118A87]) ?_; simp -dsimp (maxSteps := 2000000) (disch := omega) only [vs, ↓Option.bind_some, ev1, ofV, scalarB, Kn, Kb, calleeOf, evLoad, ptr, evField, evFieldAddr, shift, ↓pt_at, ↓pt_at1, evExtract, evBin, evLen, evConv, cellsT, noS, Cell.has, Cell.hasN, Cell.anyN, toIV, toIV0, toIVs, ownC, srcM, Ob.own, Ob.esz, allSc, nilK, lenC, ownCell, isPtr, ptrNil, frzO, Cell.frz, Cell.keys, ↓reduceIte, reduceCtorEq, Nat.reduceEqDiff, Nat.reduceBEq, Nat.reduceBNe, Nat.reduceAdd, Nat.reduceMul, Nat.reduceSub, Nat.reduceLT, Nat.reduceLeDiff, Nat.reducePow, Int.reduceLT, Int.reduceLE, Int.reduceEq, Int.reduceNe, quietB, Nat.reduceMod, Int.reduceToNat, ne_eq, eq_self, exists_const, evBytes, byRow, byL, byStr_size, ifsz, ByteArray.size_append, Option.none_or, Option.some_or, evLook, keyD, fc118A87, St.share]
  refine Trn (α := Nat × List Ty) [6, 7, 8, 9, 10, 11, 18, 19, 20, 21, 22, 23, 24, 25, 26, 27, 28, 29, 30, 31, 32, 33, 34, 35, 36, 37, 38, 39] (fun ⟨i, m⟩ => [(18, iT i), (8, .c (.os 24 m.length))]) (fun ⟨i, m⟩ => [(24, .vec 43 3 m.length (m.flatMap eTy) false)]) (fun ⟨i, m⟩ => i ≤ e.args.length ∧ m.length = i ∧ allT ((e.args.take i).map q) = some m) (fun ⟨i, m⟩ => e.args.length - i) ((0, [])) (⟨Nat.zero_le _, rfl, rfl⟩) ((ai @eTm_eta (ai @eTy_eta @fl0))) ?_; intro lx hI; obtain ⟨i, m⟩ := lx; (try simp only [List.nil_append, List.cons_append] at hI ⊢)
  by_cases hlt : i < e.args.length
  · cases hu : q e.args[i] with
    | none =>
      have hH := H _ (List.getElem_mem hlt)
      rw [hu] at hH
      obtain ⟨t', hT⟩ := (hH ([e.args.drop (i+1)].flatMap fun l => l.flatMap eTm)).no
      have hT : FnP Tryz.prog 76 [.c (.im (.pt Y)), slT eDecl ctx, .c (.im (.pt (eTm e.args[i] ++ ([e.args.drop (i+1)].flatMap fun l => l.flatMap eTm))))] (.tp [agT (eTy t'), bT false]) := hT
      simp only [List.flatMap_cons, List.flatMap_nil, List.append_nil] at hT
      refine RunX ((ai @eTm_eta (ai @eTy_eta @hlt))) ?_; with_reducible repeat' (first | exact True.intro | refine Lf.mk ?_ ?_ | intro hb)
      refine CalI ((ai @eTm_eta @eTy_eta)) (hT) ?_
      refine RunX ((ai @eTm_eta (ai @eTy_eta @hlt))) ?_; with_reducible repeat' (first | exact True.intro | refine Lf.mk ?_ ?_ | intro hb)
      refine ⟨rfl, rfl, ?_⟩
      refine RunX ((ai @eTm_eta (ai @eTy_eta @hlt))) ?_; with_reducible repeat' (first | exact True.intro | refine Lf.mk ?_ ?_ | intro hb)
    | some t =>
      have hH := H _ (List.getElem_mem hlt)
      rw [hu] at hH
      have e1 : m.flatMap eTy ++ eTy t = (m ++ [t]).flatMap eTy := by rw [List.flatMap_append, flat_one]
      rw [eTy_eta t] at e1
      simp only [slI] at e1
      have e2 : m.length + 1 = (m ++ [t]).length := by simp
      refine RunX ((ai @eTm_eta (ai @eTy_eta @hlt))) ?_; with_reducible repeat' (first | exact True.intro | refine Lf.mk ?_ ?_ | intro hb)
      refine CalI ((ai @eTm_eta @eTy_eta)) ((hH _).yes) ?_
      refine RunX ((ai (ai @eTm_eta @eTy_eta) (ai @hlt (ai @e1 @e2)))) ?_; with_reducible repeat' (first | exact True.intro | refine Lf.mk ?_ ?_ | intro hb)
      refine ⟨rfl, rfl, ?_⟩
      refine RunX ((ai (ai @eTm_eta @eTy_eta) (ai @hlt (ai @e1 @e2)))) ?_; with_reducible repeat' (first | exact True.intro | refine Lf.mk ?_ ?_ | intro hb)
      exact Nxt ((ai (ai @eTm_eta @eTy_eta) (ai @e1 @e2))) ((i + 1, m ++ [t])) (⟨by omega, by rw [← e2]; have := hI.2.1; omega, by rw [take_at hlt, List.map_append]; show allT (_ ++ [q e.args[i]]) = _; rw [hu]; exact allT_app hI.2.2⟩) (by first | omega | (simp; omega))
  · have := hI.2.2
    rw [List.take_of_length_le (by omega), hl] at this
    cases this
def fc100A87 := (ai (ai (ai (ai (ai (ai sz3 ag3) (ai zv3 un3)) (ai (ai sz4 ag4) (ai zv4 (ai un4 sz9)))) (ai (ai (ai ag9 zv9) (ai un9 (ai sz39 ag39))) (ai (ai zv39 fl39_0) (ai pl39 (ai sz41 ag41))))) (ai (ai (ai (ai zv41 sb41) (ai un41 (ai el41 ap41))) (ai (ai sz43 ag43) (ai zv43 (ai fl43_0 fl43_1)))) (ai (ai (ai fl43_2 pl43) (ai sz44 (ai ag44 zv44))) (ai (ai sb44 un44) (ai el44 (ai ap44 sz46)))))) (ai (ai (ai (ai (ai ag46 zv46) (ai fl46_0 (ai fl46_1 fl46_2))) (ai (ai fl46_3 fl46_4) (ai fl46_5 (ai pl46 sz70)))) (ai (ai (ai ag70 zv70) (ai sb70 (ai un70 el70))) (ai (ai ap70 sz77) (ai ag77 (ai zv77 un77))))) (ai (ai (ai (ai sz105 ag105) (ai zv105 (ai fl105_0 pl105))) (ai (ai sz119 ag119) (ai zv119 (ai un119 okf34)))) (ai (ai (ai okf50 okf76) (ai okf114 (ai okf115 okf116))) (ai (ai okf117 okf118) (ai okf119 (ai sz37 sz25)))))))
theorem form1_of (Y : List IV) (ctx : List Decl) (hc : ctx.length ≤ 2^40) (e : Tm) (r : List IV) (k : e.kind = 1) : FnS Tryz.prog 100 [] [.c (.im (.pt Y)), slT eDecl ctx, .c (.im (.pt (eTm e ++ r)))] [] (.tp [agT (eTy ((lookT ctx e.name).getD ty0)), bT (lookT ctx e.name).isSome]) := by
  refine FnS.go [0, 1, 2, 6, 7, 8, 9, 10, 11, 12, 13, 14, 15, 16, 20, 21, 31, 34, 37, 54, 61, 80, 109, 147] [] Tryz.func100 rfl (fun kt kz => ?_)
  have fcx := fc100A87
  simp only [Tryz.f100]
  generalize hL : lookT ctx e.name = L
  have hh := inCtx_ok ctx hc e.name
  rw [hL] at hh
  refine Run ((ai @eTm_eta (ai @eTy_eta @k))) ?_; with_reducible repeat' (first | exact True.intro | refine Lf.mk ?_ ?_ | intro hb)
  refine CalI ((ai @eTm_eta @eTy_eta)) (hh) ?_
  refine Run ((ai @eTm_eta @eTy_eta)) ?_; with_reducible repeat' (first | exact True.intro | refine Lf.mk ?_ ?_ | intro hb)
  refine ⟨rfl, ?_⟩
  refine Run ((ai @eTm_eta @eTy_eta)) ?_; with_reducible repeat' (first | exact True.intro | refine Lf.mk ?_ ?_ | intro hb)
theorem form2_of (Y : List IV) (ctx : List Decl) (e : Tm) (r : List IV) (k : e.kind = 2) : FnS Tryz.prog 100 [] [.c (.im (.pt Y)), slT eDecl ctx, .c (.im (.pt (eTm e ++ r)))] [] (.tp [agT (eTy tInt), bT true]) := by
  refine FnS.go [0, 1, 2, 6, 7, 8, 9, 10, 11, 12, 13, 14, 15, 16, 20, 21, 31, 34, 37, 54, 61, 80, 109, 147] [] Tryz.func100 rfl (fun kt kz => ?_)
  have fcx := fc100A87
  simp only [Tryz.f100]
  refine Run ((ai @eTm_eta (ai @eTy_eta @k))) ?_; with_reducible repeat' (first | exact True.intro | refine Lf.mk ?_ ?_ | intro hb)
  refine CalI ((ai @eTm_eta @eTy_eta)) (intType_t) ?_
  refine Run ((ai @eTm_eta @eTy_eta)) ?_; with_reducible repeat' (first | exact True.intro | refine Lf.mk ?_ ?_ | intro hb)
theorem form3_of (Y : List IV) (ctx : List Decl) (e : Tm) (r : List IV) (k : e.kind = 3) : FnS Tryz.prog 100 [] [.c (.im (.pt Y)), slT eDecl ctx, .c (.im (.pt (eTm e ++ r)))] [] (.tp [agT (eTy tBool), bT true]) := by
  refine FnS.go [0, 1, 2, 6, 7, 8, 9, 10, 11, 12, 13, 14, 15, 16, 20, 21, 31, 34, 37, 54, 61, 80, 109, 147] [] Tryz.func100 rfl (fun kt kz => ?_)
  have fcx := fc100A87
  simp only [Tryz.f100]
  refine Run ((ai @eTm_eta (ai @eTy_eta @k))) ?_; with_reducible repeat' (first | exact True.intro | refine Lf.mk ?_ ?_ | intro hb)
  refine CalI ((ai @eTm_eta @eTy_eta)) (boolType_t) ?_
  refine Run ((ai @eTm_eta @eTy_eta)) ?_; with_reducible repeat' (first | exact True.intro | refine Lf.mk ?_ ?_ | intro hb)
theorem form12_of (s : List Decl) (hs : okSch (2^20) s) (ctx : List Decl) (e : Tm) (r : List IV) (k : e.kind = 12) : FnS Tryz.prog 100 [] [.c (.im (.pt (eSch s))), slT eDecl ctx, .c (.im (.pt (eTm e ++ r)))] [] (.tp [agT (eTy (tBag ((rowT s e.name).getD ty0))), bT (rowT s e.name).isSome]) := by
  refine FnS.go [0, 1, 2, 6, 7, 8, 9, 10, 11, 12, 13, 14, 15, 16, 20, 21, 31, 34, 37, 54, 61, 80, 109, 147] [] Tryz.func100 rfl (fun kt kz => ?_)
  have fcx := fc100A87
  simp only [Tryz.f100]
  have hh := implRowT_ok s hs e.name
  generalize rowT s e.name = L at *
  refine RunX ((ai (ai @eSch_eta @eTm_eta) (ai @eTy_eta @k))) ?_; with_reducible repeat' (first | exact True.intro | refine Lf.mk ?_ ?_ | intro hb)
  refine Sm.drawYK [0, 1, 2, 3, 4, 5, 6, 7, 8, 9, 10, 11] 12 8 40 [(13, [], [11]), (14, [13], [])] mixed (by decide +kernel) (by simp only [get_cons, get_nil, ↓reduceIte, Nat.reduceMul, Nat.reduceEqDiff, Option.isSome_none, Option.isSome_some]) (by (simp only [List.getElem?_toArray, List.getElem?_cons_succ, List.getElem?_cons_zero]); exact rfl) (by (simp only [List.filterMap_cons, List.filterMap_nil, List.getElem?_toArray, List.getElem?_cons_succ, List.getElem?_cons_zero]); exact rfl) (by (simp only [List.filterMap_cons, List.filterMap_nil, List.getElem?_toArray, List.getElem?_cons_succ, List.getElem?_cons_zero]); exact rfl) rfl ?_; refine RunX ((ai (ai @eSch_eta @eTm_eta) (ai @eTy_eta @k))) ?_; with_reducible repeat' (first | exact True.intro | refine Lf.mk ?_ ?_ | intro hb)
  refine CalI ((ai @eSch_eta (ai @eTm_eta @eTy_eta))) (hh) ?_
  refine RunX ((ai @eSch_eta (ai @eTm_eta @eTy_eta))) ?_; with_reducible repeat' (first | exact True.intro | refine Lf.mk ?_ ?_ | intro hb)
  refine ⟨rfl, rfl, ?_⟩
  refine RunX ((ai @eSch_eta (ai @eTm_eta @eTy_eta))) ?_; with_reducible repeat' (first | exact True.intro | refine Lf.mk ?_ ?_ | intro hb)
  refine CalI ((ai @eTm_eta @eTy_eta)) (bagType_ok (L.getD ty0)) ?_
  refine RunX ((ai @eTm_eta @eTy_eta)) ?_; with_reducible repeat' (first | exact True.intro | refine Lf.mk ?_ ?_ | intro hb)
theorem form7_of (Y : List IV) (ctx : List Decl) (e : Tm) (r : List IV) (k : e.kind = 7) : FnS Tryz.prog 100 [] [.c (.im (.pt Y)), slT eDecl ctx, .c (.im (.pt (eTm e ++ r)))] [] (.tp [agT (eTy (tBag e.ty)), bT true]) := by
  refine FnS.go [0, 1, 2, 6, 7, 8, 9, 10, 11, 12, 13, 14, 15, 16, 20, 21, 31, 34, 37, 54, 61, 80, 109, 147] [] Tryz.func100 rfl (fun kt kz => ?_)
  have fcx := fc100A87
  simp only [Tryz.f100]
  refine Run ((ai @eTm_eta (ai @eTy_eta @k))) ?_; with_reducible repeat' (first | exact True.intro | refine Lf.mk ?_ ?_ | intro hb)
  refine CalI ((ai @eTm_eta @eTy_eta)) (bagType_ok e.ty) ?_
  refine Run ((ai @eTm_eta @eTy_eta)) ?_; with_reducible repeat' (first | exact True.intro | refine Lf.mk ?_ ?_ | intro hb)

end Go.VC.T
/- What types terms have: the program's function, forms that bind, plain forms. -/
namespace Go.VC.T
open Go Go.VC Go.Proofs Go.VC.F
def fc100A88 := (ai (ai (ai (ai (ai (ai sz3 ag3) (ai zv3 un3)) (ai (ai sz4 ag4) (ai zv4 (ai un4 sz9)))) (ai (ai (ai ag9 zv9) (ai un9 (ai sz39 ag39))) (ai (ai zv39 fl39_0) (ai pl39 (ai sz41 ag41))))) (ai (ai (ai (ai zv41 sb41) (ai un41 (ai el41 ap41))) (ai (ai sz43 ag43) (ai zv43 (ai fl43_0 fl43_1)))) (ai (ai (ai fl43_2 pl43) (ai sz44 (ai ag44 zv44))) (ai (ai sb44 un44) (ai el44 (ai ap44 sz46)))))) (ai (ai (ai (ai (ai ag46 zv46) (ai fl46_0 (ai fl46_1 fl46_2))) (ai (ai fl46_3 fl46_4) (ai fl46_5 (ai pl46 sz70)))) (ai (ai (ai ag70 zv70) (ai sb70 (ai un70 el70))) (ai (ai ap70 sz77) (ai ag77 (ai zv77 un77))))) (ai (ai (ai (ai sz105 ag105) (ai zv105 (ai fl105_0 pl105))) (ai (ai sz119 ag119) (ai zv119 (ai un119 okf34)))) (ai (ai (ai okf50 okf76) (ai okf114 (ai okf115 okf116))) (ai (ai okf117 okf118) (ai okf119 (ai sz37 sz25)))))))
theorem form13_of (Y : List IV) (ctx : List Decl) (hc : ctx.length ≤ 2^40) (e : Tm) (r : List IV) (k : e.kind = 13) (h0 : 0 < e.args.length) (t : Ty) (b : Bool) (H : ∀ r, FnP Tryz.prog 76 [.c (.im (.pt Y)), slT eDecl (ctx ++ [⟨e.name, e.ty⟩]), .c (.im (.pt (eTm e.args[0] ++ r)))] (.tp [agT (eTy t), bT b])) : FnS Tryz.prog 100 [] [.c (.im (.pt Y)), slT eDecl ctx, .c (.im (.pt (eTm e ++ r)))] [] (.tp [.ag [.im (.sc (.int .i64 5)), .nl, .ik 2 2 (eTy e.ty ++ eTy t)], bT b]) := by
  refine FnS.go [0, 1, 2, 6, 7, 8, 9, 10, 11, 12, 13, 14, 15, 16, 20, 21, 31, 34, 37, 54, 61, 80, 109, 147] [272] Tryz.func100 rfl (fun kt kz => ?_)
  have fcx := fc100A88
  simp only [Tryz.f100]
  refine RunX ((ai (ai @eTm_eta @eTy_eta) (ai @k @h0))) ?_; with_reducible repeat' (first | exact True.intro | refine Lf.mk ?_ ?_ | intro hb)
  refine Sm.drawYK [0, 1, 2, 3, 4, 5, 6, 7, 8, 9, 10, 11, 12, 13, 14, 15, 16, 17, 18, 19] 20 13 40 [(21, [], [19]), (22, [21], [])] mixed (by decide +kernel) (by simp only [get_cons, get_nil, ↓reduceIte, Nat.reduceMul, Nat.reduceEqDiff, Option.isSome_none, Option.isSome_some]) (by (simp only [List.getElem?_toArray, List.getElem?_cons_succ, List.getElem?_cons_zero]); exact rfl) (by (simp only [List.filterMap_cons, List.filterMap_nil, List.getElem?_toArray, List.getElem?_cons_succ, List.getElem?_cons_zero]); exact rfl) (by (simp only [List.filterMap_cons, List.filterMap_nil, List.getElem?_toArray, List.getElem?_cons_succ, List.getElem?_cons_zero]); exact rfl) rfl ?_; refine RunX ((ai @eTm_eta (ai @eTy_eta @h0))) ?_; with_reducible repeat' (first | exact True.intro | refine Lf.mk ?_ ?_ | intro hb)
  refine CalI ((ai @eTm_eta @eTy_eta)) (with_ok ctx hc e.name e.ty) ?_
  refine RunX ((ai @eTm_eta (ai @eTy_eta @h0))) ?_; with_reducible repeat' (first | exact True.intro | refine Lf.mk ?_ ?_ | intro hb)
  refine CalI ((ai @eTm_eta @eTy_eta)) (H _) ?_
  refine RunX ((ai @eTm_eta @eTy_eta)) ?_; with_reducible repeat' (first | exact True.intro | refine Lf.mk ?_ ?_ | intro hb)
  refine ⟨rfl, rfl, ?_⟩
  have dq : Dq [0, 1, 2, 3, 4, 5, 6, 7] [8, 9] 40 [[7], []] := ⟨⟩
  refine RunX ((ai @eTm_eta @eTy_eta)) ?_; with_reducible repeat' (first | exact True.intro | refine Lf.mk ?_ ?_ | intro hb)
theorem form10_a (Y : List IV) (ctx : List Decl) (e : Tm) (r : List IV) (k : e.kind = 10) (h0 : 0 < e.args.length) (t : Ty) (b : Bool) (hn : ¬ (b = true ∧ t.kind = 4)) (H : ∀ r, FnP Tryz.prog 76 [.c (.im (.pt Y)), slT eDecl ctx, .c (.im (.pt (eTm e.args[0] ++ r)))] (.tp [agT (eTy t), bT b])) : FnS Tryz.prog 100 [] [.c (.im (.pt Y)), slT eDecl ctx, .c (.im (.pt (eTm e ++ r)))] [] (.tp [.ag [.im (.sc (.int .i64 0)), .nl, .nl], bT false]) := by
  refine FnS.go [0, 1, 2, 6, 7, 8, 9, 10, 11, 12, 13, 14, 15, 16, 20, 21, 31, 34, 37, 54, 61, 80, 109, 147] [] Tryz.func100 rfl (fun kt kz => ?_)
  have fcx := fc100A88
  simp only [Tryz.f100]
  cases b with
  | false =>
    refine Run ((ai (ai @eTm_eta @eTy_eta) (ai @k @h0))) ?_; with_reducible repeat' (first | exact True.intro | refine Lf.mk ?_ ?_ | intro hb)
    refine CalI ((ai @eTm_eta @eTy_eta)) (H _) ?_
    refine Run ((ai @eTm_eta @eTy_eta)) ?_; with_reducible repeat' (first | exact True.intro | refine Lf.mk ?_ ?_ | intro hb)
    refine ⟨rfl, rfl, ?_⟩
    refine Run ((ai @eTm_eta @eTy_eta)) ?_; with_reducible repeat' (first | exact True.intro | refine Lf.mk ?_ ?_ | intro hb)
  | true =>
    have hk := eq_false (fun h => hn ⟨rfl, h⟩)
    refine Run ((ai (ai @eTm_eta @eTy_eta) (ai @k @h0))) ?_; with_reducible repeat' (first | exact True.intro | refine Lf.mk ?_ ?_ | intro hb)
    refine CalI ((ai @eTm_eta @eTy_eta)) (H _) ?_
    refine Run ((ai @eTm_eta @eTy_eta)) ?_; with_reducible repeat' (first | exact True.intro | refine Lf.mk ?_ ?_ | intro hb)
    refine ⟨rfl, rfl, ?_⟩
    refine Run ((ai @eTm_eta (ai @eTy_eta @hk))) ?_; with_reducible repeat' (first | exact True.intro | refine Lf.mk ?_ ?_ | intro hb)
theorem form10_b (Y : List IV) (ctx : List Decl) (hc : ctx.length ≤ 2^40) (e : Tm) (r : List IV) (k : e.kind = 10) (h0 : 0 < e.args.length) (h1 : 1 < e.args.length) (t u : Ty) (b : Bool) (hk : t.kind = 4) (ha : 0 < t.args.length) (H : ∀ r, FnP Tryz.prog 76 [.c (.im (.pt Y)), slT eDecl ctx, .c (.im (.pt (eTm e.args[0] ++ r)))] (.tp [agT (eTy t), bT true])) (H2 : ∀ r, FnP Tryz.prog 76 [.c (.im (.pt Y)), slT eDecl (ctx ++ [⟨e.name, t.args[0]⟩]), .c (.im (.pt (eTm e.args[1] ++ r)))] (.tp [agT (eTy u), bT b])) : FnS Tryz.prog 100 [] [.c (.im (.pt Y)), slT eDecl ctx, .c (.im (.pt (eTm e ++ r)))] [] (.tp [agT (eTy u), bT (b && decide (u.kind = 4))]) := by
  refine FnS.go [0, 1, 2, 6, 7, 8, 9, 10, 11, 12, 13, 14, 15, 16, 20, 21, 31, 34, 37, 54, 61, 80, 109, 147] [] Tryz.func100 rfl (fun kt kz => ?_)
  have fcx := fc100A88
  simp only [Tryz.f100]
  have gk := eq_true hk
  refine RunX ((ai (ai @eTm_eta @eTy_eta) (ai @k @h0))) ?_; with_reducible repeat' (first | exact True.intro | refine Lf.mk ?_ ?_ | intro hb)
  refine CalI ((ai @eTm_eta @eTy_eta)) (H _) ?_
  refine RunX ((ai @eTm_eta @eTy_eta)) ?_; with_reducible repeat' (first | exact True.intro | refine Lf.mk ?_ ?_ | intro hb)
  refine ⟨rfl, rfl, ?_⟩
  refine RunX ((ai @eTm_eta (ai @eTy_eta @gk))) ?_; with_reducible repeat' (first | exact True.intro | refine Lf.mk ?_ ?_ | intro hb)
  refine Sm.drawYK [0, 1, 2, 3, 4, 5, 6, 7, 8, 9, 10, 11, 12, 13, 14, 15, 16, 17, 18, 19] 20 12 40 [(21, [], [19]), (22, [21], [])] mixed (by decide +kernel) (by simp only [get_cons, get_nil, ↓reduceIte, Nat.reduceMul, Nat.reduceEqDiff, Option.isSome_none, Option.isSome_some]) (by (simp only [List.getElem?_toArray, List.getElem?_cons_succ, List.getElem?_cons_zero]); exact rfl) (by (simp only [List.filterMap_cons, List.filterMap_nil, List.getElem?_toArray, List.getElem?_cons_succ, List.getElem?_cons_zero]); exact rfl) (by (simp only [List.filterMap_cons, List.filterMap_nil, List.getElem?_toArray, List.getElem?_cons_succ, List.getElem?_cons_zero]); exact rfl) rfl ?_; refine RunX ((ai (ai @eTm_eta @eTy_eta) (ai @h0 (ai @h1 @ha)))) ?_; with_reducible repeat' (first | exact True.intro | refine Lf.mk ?_ ?_ | intro hb)
  refine CalI ((ai @eTm_eta @eTy_eta)) (with_ok ctx hc e.name t.args[0]) ?_
  refine RunX ((ai @eTm_eta (ai @eTy_eta @h1))) ?_; with_reducible repeat' (first | exact True.intro | refine Lf.mk ?_ ?_ | intro hb)
  refine CalI ((ai @eTm_eta @eTy_eta)) (H2 _) ?_
  refine RunX ((ai @eTm_eta @eTy_eta)) ?_; with_reducible repeat' (first | exact True.intro | refine Lf.mk ?_ ?_ | intro hb)
  refine ⟨rfl, rfl, ?_⟩
  have dq : Dq [0, 1, 2, 3, 4, 5, 6] [7, 8] 40 [[3, 4, 5, 6], []] := ⟨⟩
  cases b with
  | false =>
    refine RunX ((ai @eTm_eta @eTy_eta)) ?_; with_reducible repeat' (first | exact True.intro | refine Lf.mk ?_ ?_ | intro hb)
    refine ⟨rfl, ?_⟩
    refine RunX ((ai @eTm_eta @eTy_eta)) ?_; with_reducible repeat' (first | exact True.intro | refine Lf.mk ?_ ?_ | intro hb)
  | true =>
    refine RunX ((ai @eTm_eta @eTy_eta)) ?_; with_reducible repeat' (first | exact True.intro | refine Lf.mk ?_ ?_ | intro hb)
theorem formN_of (Y : List IV) (ctx : List Decl) (e : Tm) (r : List IV) (k1 : ¬ e.kind = 1) (k2 : ¬ e.kind = 2) (k3 : ¬ e.kind = 3) (k12 : ¬ e.kind = 12) (k7 : ¬ e.kind = 7) (k10 : ¬ e.kind = 10) (k13 : ¬ e.kind = 13) (H : FnP Tryz.prog 118 [.c (.im (.pt Y)), slT eDecl ctx, .c (.im (.pt (eTm e ++ r)))] (.tp [.c (.im (.sl 0 [])), bT false])) : FnS Tryz.prog 100 [] [.c (.im (.pt Y)), slT eDecl ctx, .c (.im (.pt (eTm e ++ r)))] [] (.tp [.ag [.im (.sc (.int .i64 0)), .nl, .nl], bT false]) := by
  refine FnS.go [0, 1, 2, 6, 7, 8, 9, 10, 11, 12, 13, 14, 15, 16, 20, 21, 31, 34, 37, 54, 61, 80, 109, 147] [] Tryz.func100 rfl (fun kt kz => ?_)
  have fcx := fc100A88
  simp only [Tryz.f100]
  have g1 := eq_false k1
  have g2 := eq_false k2
  have g3 := eq_false k3
  have g12 := eq_false k12
  have g7 := eq_false k7
  have g10 := eq_false k10
  have g13 := eq_false k13
  refine Run ((ai (ai (ai @eTm_eta @eTy_eta) (ai @g1 @g2)) (ai (ai @g3 @g12) (ai @g7 (ai @g10 @g13))))) ?_; with_reducible repeat' (first | exact True.intro | refine Lf.mk ?_ ?_ | intro hb)
  refine CalI ((ai @eTm_eta @eTy_eta)) (H) ?_
  refine Run ((ai @eTm_eta @eTy_eta)) ?_; with_reducible repeat' (first | exact True.intro | refine Lf.mk ?_ ?_ | intro hb)
theorem formP_of (Y : List IV) (ctx : List Decl) (e : Tm) (r : List IV) (k1 : ¬ e.kind = 1) (k2 : ¬ e.kind = 2) (k3 : ¬ e.kind = 3) (k12 : ¬ e.kind = 12) (k7 : ¬ e.kind = 7) (k10 : ¬ e.kind = 10) (k13 : ¬ e.kind = 13) (l : List Ty) (t : Ty) (b : Bool) (H : FnP Tryz.prog 118 [.c (.im (.pt Y)), slT eDecl ctx, .c (.im (.pt (eTm e ++ r)))] (.tp [slT eTy l, bT true])) (H2 : FnP Tryz.prog 119 [.c (.im (.pt Y)), .c (.im (.pt (eTm e ++ r))), slT eTy l] (.tp [agT (eTy t), bT b])) : FnS Tryz.prog 100 [] [.c (.im (.pt Y)), slT eDecl ctx, .c (.im (.pt (eTm e ++ r)))] [] (.tp [agT (eTy t), bT b]) := by
  refine FnS.go [0, 1, 2, 6, 7, 8, 9, 10, 11, 12, 13, 14, 15, 16, 20, 21, 31, 34, 37, 54, 61, 80, 109, 147] [] Tryz.func100 rfl (fun kt kz => ?_)
  have fcx := fc100A88
  simp only [Tryz.f100]
  have g1 := eq_false k1
  have g2 := eq_false k2
  have g3 := eq_false k3
  have g12 := eq_false k12
  have g7 := eq_false k7
  have g10 := eq_false k10
  have g13 := eq_false k13
  refine Run ((ai (ai (ai @eTm_eta @eTy_eta) (ai @g1 @g2)) (ai (ai @g3 @g12) (ai @g7 (ai @g10 @g13))))) ?_; with_reducible repeat' (first | exact True.intro | refine Lf.mk ?_ ?_ | intro hb)
  refine CalI ((ai @eTm_eta @eTy_eta)) (H) ?_
  refine Run ((ai @eTm_eta @eTy_eta)) ?_; with_reducible repeat' (first | exact True.intro | refine Lf.mk ?_ ?_ | intro hb)
  refine CalI ((ai @eTm_eta @eTy_eta)) (H2) ?_
  refine Run ((ai @eTm_eta @eTy_eta)) ?_; with_reducible repeat' (first | exact True.intro | refine Lf.mk ?_ ?_ | intro hb)
  refine ⟨rfl, ?_⟩
  refine Run ((ai @eTm_eta @eTy_eta)) ?_; with_reducible repeat' (first | exact True.intro | refine Lf.mk ?_ ?_ | intro hb)

end Go.VC.T
/- What types terms have: the program's function. -/
namespace Go.VC
open Go
def CtxOk (ctx : List Decl) : Prop := ∀ d ∈ ctx, TyOk d.row
theorem bnd_ty {t : Ty} (h : TyOk t) : okTy (2^20) t ∧ zTy t ≤ 2^40 := ⟨h.ok, by have := h.z; omega⟩
theorem zSL_nil : zSL [] = 0 := rfl
theorem ok64_k {k : Int} (h : 0 ≤ k ∧ k ≤ 5) : ok64 k := ⟨by omega, by omega⟩
theorem bag_bnd {t : Ty} (h : okTy (2^20) t) (hz : zTy t ≤ 2^39) : okTy (2^20) (tBag t) ∧ zTy (tBag t) ≤ 2^40 := by
  refine ⟨okTy_iff.2 ⟨ok64_k (k := 4) (by omega), ⟨by simp [tBag, Ty.labels], by simp [tBag, Ty.labels]⟩, ⟨by simp [tBag, Ty.args], ?_⟩⟩, ?_⟩
  · intro a ha
    simp only [tBag, Ty.args, List.mem_singleton] at ha
    subst ha; exact h
  · rw [zTy_eta]
    show zSL [] + zL zTy [t] ≤ _
    rw [zSL_nil]
    simp only [zL, List.length_cons, List.length_nil, List.map_cons, List.map_nil, List.sum_cons, List.sum_nil]
    omega
theorem bnd_bag {t : Ty} (h : TyOk t) : okTy (2^20) (tBag t) ∧ zTy (tBag t) ≤ 2^40 := bag_bnd h.ok (by have := h.z; omega)
theorem bnd_int : okTy (2^20) tInt ∧ zTy tInt ≤ 2^40 := by
  refine ⟨okTy_iff.2 ⟨⟨by decide, by decide⟩, ⟨by simp [tInt, Ty.labels], by simp [tInt, Ty.labels]⟩, ⟨by simp [tInt, Ty.args], by simp [tInt, Ty.args]⟩⟩, ?_⟩
  rw [zTy_eta]; show zSL [] + zL zTy [] ≤ _; decide
theorem bnd_bool : okTy (2^20) tBool ∧ zTy tBool ≤ 2^40 := by
  refine ⟨okTy_iff.2 ⟨⟨by decide, by decide⟩, ⟨by simp [tBool, Ty.labels], by simp [tBool, Ty.labels]⟩, ⟨by simp [tBool, Ty.args], by simp [tBool, Ty.args]⟩⟩, ?_⟩
  rw [zTy_eta]; show zSL [] + zL zTy [] ≤ _; decide
theorem bnd_fun {t u : Ty} (h : TyOk t) (h2 : TyOk u) : okTy (2^20) (tFun t u) ∧ zTy (tFun t u) ≤ 2^40 := by
  refine ⟨okTy_iff.2 ⟨ok64_k (k := 5) (by omega), ⟨by simp [tFun, Ty.labels], by simp [tFun, Ty.labels]⟩, ⟨by simp [tFun, Ty.args], ?_⟩⟩, ?_⟩
  · intro a ha
    simp only [tFun, Ty.args, List.mem_cons, List.not_mem_nil, or_false] at ha
    rcases ha with rfl | rfl
    · exact h.ok
    · exact h2.ok
  · rw [zTy_eta]
    show zSL [] + zL zTy [t, u] ≤ _
    have := h.z
    have := h2.z
    rw [zSL_nil]
    simp only [zL, List.length_cons, List.length_nil, List.map_cons, List.map_nil, List.sum_cons, List.sum_nil]
    omega
theorem bnd_rec {l : List ByteArray} {ts : List Ty} (h : LabsOk l) (hn : ts.length = l.length) (ht : ∀ t ∈ ts, TyOk t) : okTy (2^20) (tRec l ts) ∧ zTy (tRec l ts) ≤ 2^40 := by
  have hl := h.2.1.2
  refine ⟨okTy_iff.2 ⟨ok64_k (k := 3) (by omega), labs_ok h, ⟨by show ts.length ≤ _; omega, fun a ha => (ht a ha).ok⟩⟩, ?_⟩
  rw [zTy_eta]
  show zSL l + zL zTy ts ≤ _
  have h1 := labs_z h
  have h2 : (ts.map zTy).sum ≤ 600 * ts.length := by
    clear hn hl h h1
    induction ts with
    | nil => simp
    | cons a r ih =>
      have := ih fun t h => ht t (List.mem_cons_of_mem _ h)
      have := (ht a List.mem_cons_self).z
      rw [List.map_cons, List.sum_cons, List.length_cons]
      omega
  unfold zL
  omega
theorem bnd_arg {t a : Ty} (h : TyOk t) (ha : a ∈ t.args) : okTy (2^20) a ∧ zTy a ≤ 2^40 := ⟨tf_ok a (h.arg ha), by have := zTy_arg ha; have := h.z; omega⟩
theorem lookT_mem {ctx : List Decl} {name : ByteArray} {t : Ty} (h : lookT ctx name = some t) : ∃ d ∈ ctx, d.row = t := by
  unfold lookT at h
  obtain ⟨d, hd, rfl⟩ := Option.map_eq_some_iff.1 h
  exact ⟨d, List.mem_reverse.1 (List.mem_of_find?_eq_some hd), rfl⟩
theorem rowT_mem {s : List Decl} {name : ByteArray} {t : Ty} (h : rowT s name = some t) : ∃ d ∈ s, d.row = t := by
  unfold rowT at h
  obtain ⟨d, hd, rfl⟩ := Option.map_eq_some_iff.1 h
  exact ⟨d, List.mem_of_find?_eq_some hd, rfl⟩
theorem nd_two {e : Tm} (h : NdOk e) (k : e.kind = 9 ∨ e.kind = 10 ∨ e.kind = 14) : e.args.length = 2 := by
  have := h.1
  unfold arK at this
  rw [if_neg (by omega), if_neg (by omega), if_neg (by omega), if_neg (by omega), if_pos k] at this
  exact (Option.some.inj this).symm
theorem nd_one {e : Tm} (h : NdOk e) (k : e.kind = 6 ∨ e.kind = 8 ∨ e.kind = 13 ∨ e.kind = 15 ∨ e.kind = 16) : e.args.length = 1 := by
  have := h.1
  unfold arK at this
  rw [if_neg (by omega), if_neg (by omega), if_neg (by omega), if_pos k] at this
  exact (Option.some.inj this).symm
theorem nd_three {e : Tm} (h : NdOk e) (k : e.kind = 11) : e.args.length = 3 := by
  have := h.1
  unfold arK at this
  rw [if_neg (by omega), if_neg (by omega), if_neg (by omega), if_neg (by omega), if_neg (by omega), if_pos k] at this
  exact (Option.some.inj this).symm
theorem nd_rec {e : Tm} (h : NdOk e) (k : e.kind = 5) : LabsOk e.labels ∧ e.args.length = e.labels.length := by
  have := h.1
  unfold arK at this
  rw [if_neg (by omega), if_neg (by omega), if_pos k] at this
  by_cases hl : LabsOk e.labels
  · rw [if_pos hl] at this; exact ⟨hl, (Option.some.inj this).symm⟩
  · rw [if_neg hl] at this; cases this
theorem nd_op {e : Tm} (h : NdOk e) (k : e.kind = 4) : opAr e.name ≠ 0 := fun h0 => by
  have := h.1
  unfold arK at this
  rw [if_neg (by omega), if_pos k, if_pos h0] at this
  cases this
theorem nd_kind {e : Tm} (h : NdOk e) : e.kind = 1 ∨ e.kind = 2 ∨ e.kind = 3 ∨ e.kind = 7 ∨ e.kind = 12 ∨ e.kind = 4 ∨ e.kind = 5 ∨ e.kind = 6 ∨ e.kind = 8 ∨ e.kind = 13 ∨ e.kind = 15 ∨ e.kind = 16 ∨ e.kind = 9 ∨ e.kind = 10 ∨ e.kind = 14 ∨ e.kind = 11 := by
  apply Classical.byContradiction
  intro hn
  have := h.1
  unfold arK at this
  rw [if_neg (by omega), if_neg (by omega), if_neg (by omega), if_neg (by omega), if_neg (by omega), if_neg (by omega)] at this
  cases this
theorem nd_ty {e : Tm} (h : NdOk e) (k : tyK e.kind) : TyOk e.ty := by
  have := h.2.2.2.2
  unfold NdTy at this
  rwa [if_pos k] at this
end Go.VC
/- Fields, contexts, operations, terms of normal queries: the reference. -/
namespace Go.VC
open Go
theorem look_step {ctx : List Decl} {name : ByteArray} {n : Nat} (h : ∀ j, n < j → (h : j < ctx.length) → ctx[j].name ≠ name) (hn : ∀ h : n < ctx.length, ctx[n].name ≠ name) : ∀ j, n ≤ j → (h : j < ctx.length) → ctx[j].name ≠ name := fun j hj hl => by
  by_cases e : j = n
  · subst e; exact hn hl
  · exact h j (by omega) hl
end Go.VC
namespace Go.VC.T
open Go Go.VC Go.Proofs Go.VC.F
def fc28A93 := (ai (ai (ai (ai (ai sz3 ag3) (ai zv3 un3)) (ai (ai sz4 ag4) (ai zv4 (ai un4 sz9)))) (ai (ai (ai ag9 zv9) (ai un9 sz25)) (ai (ai ag25 zv25) (ai sb25 (ai un25 el25))))) (ai (ai (ai (ai ap25 sz41) (ai ag41 zv41)) (ai (ai sb41 un41) (ai el41 (ai ap41 sz43)))) (ai (ai (ai ag43 zv43) (ai fl43_0 fl43_1)) (ai (ai fl43_2 pl43) (ai okf27 (ai okf61 okf64))))))
theorem specField_a (t : Ty) (h : okTy (2^20) t) (hz : zTy t ≤ 2^40) (l : ByteArray) (ht : TyOk t ∧ t.kind = 3 ∧ 0 ≤ idxI (fun x => decide (x = l)) t.labels) (u : Ty) (hu : fieldT t l = some u) : FnS Tryz.prog 28 [] [agT (eTy t), sT l] [] (.tp [agT (eTy u), bT true]) := by
  refine FnS.go [0, 1, 2, 4, 5, 6, 22] [] Tryz.func28 rfl (fun kt kz => ?_)
  have fcx := fc28A93
  simp only [Tryz.f28]
  have ho := okTy_iff.1 h
  obtain ⟨j, hj, hja, e⟩ := fieldT_at ht
  obtain rfl : u = t.args[j] := by rw [hu] at e; exact Option.some.inj e
  have g1 := eq_true ht.1
  have g2 := ht.2.1
  have g3 : ((j : Int) < 0) = False := eq_false (by omega)
  refine Run (@eTy_eta) ?_; with_reducible repeat' (first | exact True.intro | refine Lf.mk ?_ ?_ | intro hb)
  refine Cal (@eTy_eta) (indexOf_ok t.labels l (by have := ho.2.1.1; omega)) ?_
  refine Run ((ai @eTy_eta @hj)) ?_; with_reducible repeat' (first | exact True.intro | refine Lf.mk ?_ ?_ | intro hb)
  refine Cal (@eTy_eta) (specTyOk_ok t h hz) ?_
  refine Run ((ai (ai @eTy_eta (ai @hj @g1)) (ai @g2 (ai @g3 @hja)))) ?_; with_reducible repeat' (first | exact True.intro | refine Lf.mk ?_ ?_ | intro hb)
  refine CalI (@eTy_eta) (l3Copy_ok t.args[j] (ho.2.2.2 _ (List.getElem_mem hja))) ?_
  refine Run (@eTy_eta) ?_; with_reducible repeat' (first | exact True.intro | refine Lf.mk ?_ ?_ | intro hb)
theorem specField_b (t : Ty) (h : okTy (2^20) t) (hz : zTy t ≤ 2^40) (l : ByteArray) (ht : ¬ (TyOk t ∧ t.kind = 3 ∧ 0 ≤ idxI (fun x => decide (x = l)) t.labels)) : FnS Tryz.prog 28 [] [agT (eTy t), sT l] [] (.tp [.ag [.im (.sc (.int .i64 0)), .nl, .nl], bT false]) := by
  refine FnS.go [0, 1, 2, 4, 5, 6, 22] [] Tryz.func28 rfl (fun kt kz => ?_)
  have fcx := fc28A93
  simp only [Tryz.f28]
  have ho := okTy_iff.1 h
  refine Run (@eTy_eta) ?_; with_reducible repeat' (first | exact True.intro | refine Lf.mk ?_ ?_ | intro hb)
  refine Cal (@eTy_eta) (indexOf_ok t.labels l (by have := ho.2.1.1; omega)) ?_
  refine Run (@eTy_eta) ?_; with_reducible repeat' (first | exact True.intro | refine Lf.mk ?_ ?_ | intro hb)
  refine Cal (@eTy_eta) (specTyOk_ok t h hz) ?_
  by_cases h1 : TyOk t
  · have g1 := eq_true h1
    by_cases h2 : t.kind = 3
    · have g2 := eq_true h2
      have g3 : (idxI (fun x => decide (x = l)) t.labels < 0) = True := eq_true (by have : ¬ 0 ≤ idxI (fun x => decide (x = l)) t.labels := fun h => ht ⟨h1, h2, h⟩; omega)
      refine Run ((ai (ai @eTy_eta @g1) (ai @g2 @g3))) ?_; with_reducible repeat' (first | exact True.intro | refine Lf.mk ?_ ?_ | intro hb)
    · have g2 := eq_false h2
      refine Run ((ai @eTy_eta (ai @g1 @g2))) ?_; with_reducible repeat' (first | exact True.intro | refine Lf.mk ?_ ?_ | intro hb)
  · have g1 := eq_false h1
    refine Run ((ai @eTy_eta @g1)) ?_; with_reducible repeat' (first | exact True.intro | refine Lf.mk ?_ ?_ | intro hb)

theorem specField_ok (t : Ty) (h : okTy (2^20) t) (hz : zTy t ≤ 2^40) (l : ByteArray) : FnP Tryz.prog 28 [agT (eTy t), sT l] (.tp [agT (eTy ((fieldT t l).getD ty0)), bT (fieldT t l).isSome]) := by
  by_cases ht : TyOk t ∧ t.kind = 3 ∧ 0 ≤ idxI (fun x => decide (x = l)) t.labels
  · obtain ⟨j, _, hj, e⟩ := fieldT_at ht
    rw [e]
    exact specField_a t h hz l ht _ e
  · rw [fieldT_no ht]
    exact (specField_b t h hz l ht).treeP rfl
def fc122A93 := (ai (ai (ai (ai (ai sz3 ag3) (ai zv3 un3)) (ai (ai sz4 ag4) (ai zv4 un4))) (ai (ai (ai sz9 ag9) (ai zv9 un9)) (ai (ai sz43 ag43) (ai zv43 (ai fl43_0 fl43_1))))) (ai (ai (ai (ai fl43_2 pl43) (ai sz69 ag69)) (ai (ai zv69 fl69_0) (ai fl69_1 (ai pl69 sz70)))) (ai (ai (ai ag70 zv70) (ai sb70 un70)) (ai (ai el70 ap70) (ai okf61 (ai sz25 sz41))))))
theorem look_a (ctx : List Decl) (h : ctx.length ≤ 2^40) (hoc : ∀ d ∈ ctx, okTy (2^20) d.row) (name : ByteArray) (t : Ty) (ht : lookT ctx name = some t) : FnS Tryz.prog 122 [] [slT eDecl ctx, sT name] [] (.tp [agT (eTy t), bT true]) := by
  refine FnS.go [0, 1, 4, 5, 6, 11, 20] [] Tryz.func122 rfl (fun kt kz => ?_)
  have fcx := fc122A93
  simp only [Tryz.f122]
  refine Run (@eTy_eta) ?_; with_reducible repeat' (first | exact True.intro | refine Lf.mk ?_ ?_ | intro hb)
  refine Trn (α := Nat) [5, 6, 10, 11, 12, 13, 14, 15, 16, 17, 18, 19, 20, 21, 22, 23, 24, 25, 26] (fun n => [(6, iT ((n : Int) - 1))]) (fun n => [(8, .box 43 [.im (.sc (.int .i64 0)), .nl, .nl])]) (fun n => n ≤ ctx.length ∧ ∀ j, n ≤ j → (h : j < ctx.length) → ctx[j].name ≠ name) (fun n => n) (ctx.length) (⟨Nat.le_refl _, fun j h1 h2 => by omega⟩) (@eTy_eta) ?_; intro lx hI; obtain n := lx; (try simp only [List.nil_append, List.cons_append] at hI ⊢)
  by_cases hlt : 0 < lx
  · have hl2 : lx - 1 < ctx.length := by omega
    have e1 := (show ((lx - 1 : Nat) : Int) = (lx : Int) - 1 by omega)
    have e1' := e1.symm
    have g0 : (0 ≤ (lx : Int) - 1) = True := eq_true (by omega)
    by_cases hn : ctx[lx - 1].name = name
    · have gn := eq_true hn
      have e := look_at hl2 hn fun j hj hl => hI.2 j (by omega) hl
      obtain rfl : t = ctx[lx - 1].row := by rw [ht] at e; exact Option.some.inj e
      refine Run ((ai (ai @eDecl_eta @g0) (ai @e1' (ai @hl2 @gn)))) ?_; with_reducible repeat' (first | exact True.intro | refine Lf.mk ?_ ?_ | intro hb)
      refine CalI (@eTy_eta) (l3Copy_ok ctx[lx - 1].row (hoc _ (List.getElem_mem hl2))) ?_
      refine Run (@eTy_eta) ?_; with_reducible repeat' (first | exact True.intro | refine Lf.mk ?_ ?_ | intro hb)
    · have gn := eq_false hn
      refine Run ((ai (ai @eDecl_eta @g0) (ai @e1' (ai @hl2 @gn)))) ?_; with_reducible repeat' (first | exact True.intro | refine Lf.mk ?_ ?_ | intro hb)
      exact Nxt ((ai @eDecl_eta @e1)) (lx - 1) (⟨by omega, look_step (fun j h1 h2 => hI.2 j (by omega) h2) fun _ => hn⟩) (by first | omega | (simp; omega))
  · have e := look_none (ctx := ctx) (name := name) fun j hj => hI.2 j (by omega) hj
    rw [ht] at e; cases e
theorem look_b (ctx : List Decl) (h : ctx.length ≤ 2^40) (name : ByteArray) (ht : lookT ctx name = none) : FnS Tryz.prog 122 [] [slT eDecl ctx, sT name] [] (.tp [.ag [.im (.sc (.int .i64 0)), .nl, .nl], bT false]) := by
  refine FnS.go [0, 1, 4, 5, 6, 11, 20] [] Tryz.func122 rfl (fun kt kz => ?_)
  have fcx := fc122A93
  simp only [Tryz.f122]
  refine Run (@eTy_eta) ?_; with_reducible repeat' (first | exact True.intro | refine Lf.mk ?_ ?_ | intro hb)
  refine Trn (α := Nat) [5, 6, 10, 11, 12, 13, 14, 15, 16, 17, 18, 19, 20, 21, 22, 23, 24, 25, 26] (fun n => [(6, iT ((n : Int) - 1))]) (fun n => [(8, .box 43 [.im (.sc (.int .i64 0)), .nl, .nl])]) (fun n => n ≤ ctx.length ∧ ∀ j, n ≤ j → (h : j < ctx.length) → ctx[j].name ≠ name) (fun n => n) (ctx.length) (⟨Nat.le_refl _, fun j h1 h2 => by omega⟩) (@eTy_eta) ?_; intro lx hI; obtain n := lx; (try simp only [List.nil_append, List.cons_append] at hI ⊢)
  by_cases hlt : 0 < lx
  · have hl2 : lx - 1 < ctx.length := by omega
    have e1 := (show ((lx - 1 : Nat) : Int) = (lx : Int) - 1 by omega)
    have e1' := e1.symm
    have g0 : (0 ≤ (lx : Int) - 1) = True := eq_true (by omega)
    by_cases hn : ctx[lx - 1].name = name
    · have e := look_at hl2 hn fun j hj hl => hI.2 j (by omega) hl
      rw [ht] at e; cases e
    · have gn := eq_false hn
      refine Run ((ai (ai @eDecl_eta @g0) (ai @e1' (ai @hl2 @gn)))) ?_; with_reducible repeat' (first | exact True.intro | refine Lf.mk ?_ ?_ | intro hb)
      exact Nxt ((ai @eDecl_eta @e1)) (lx - 1) (⟨by omega, look_step (fun j h1 h2 => hI.2 j (by omega) h2) fun _ => hn⟩) (by first | omega | (simp; omega))
  · have g0 : (0 ≤ (lx : Int) - 1) = False := eq_false (by omega)
    refine Run (@g0) ?_; with_reducible repeat' (first | exact True.intro | refine Lf.mk ?_ ?_ | intro hb)

theorem look_ok (ctx : List Decl) (h : ctx.length ≤ 2^40) (hoc : ∀ d ∈ ctx, okTy (2^20) d.row) (name : ByteArray) : FnP Tryz.prog 122 [slT eDecl ctx, sT name] (.tp [agT (eTy ((lookT ctx name).getD ty0)), bT (lookT ctx name).isSome]) := by
  cases ht : lookT ctx name with
  | some t => exact look_a ctx h hoc name t ht
  | none => exact (look_b ctx h name ht).treeP rfl

end Go.VC.T
/- Operations' types, arities, terms of normal queries: the reference. -/
namespace Go.VC
open Go
noncomputable def arS (e : Tm) : Int := if e.kind = 1 ∨ e.kind = 2 ∨ e.kind = 3 ∨ e.kind = 7 ∨ e.kind = 12 then 0 else if e.kind = 4 then (opAr e.name : Int) else if e.kind = 5 then (e.labels.length : Int) else if e.kind = 6 ∨ e.kind = 8 ∨ e.kind = 13 ∨ e.kind = 15 ∨ e.kind = 16 then 1 else if e.kind = 9 ∨ e.kind = 10 ∨ e.kind = 14 then 2 else if e.kind = 11 then 3 else -1
theorem nd_leaf {e : Tm} (h : NdOk e) (k : e.kind = 1) : e.args.length = 0 := by
  have := h.1
  unfold arK at this
  rw [if_pos (.inl k)] at this
  exact (Option.some.inj this).symm
end Go.VC
namespace Go.VC.T
open Go Go.VC Go.Proofs Go.VC.F
def fc124A94 := (ai (ai (ai (ai sz3 (ai ag3 zv3)) (ai (ai un3 sz4) (ai ag4 zv4))) (ai (ai un4 (ai sz9 ag9)) (ai (ai zv9 un9) (ai sz41 ag41)))) (ai (ai (ai zv41 (ai sb41 un41)) (ai (ai el41 ap41) (ai sz43 ag43))) (ai (ai (ai zv43 fl43_0) (ai fl43_1 fl43_2)) (ai (ai pl43 okf30) (ai okf123 sz25)))))
theorem sOp_43_a (t : List Ty) (h : t.length ≤ 2^20) (ha : (t.any fun a => !decide (a.kind = 1)) = false) : FnS Tryz.prog 124 [] [sT ⟨#[43]⟩, slT eTy t] [] (.tp [agT (eTy tInt), bT true]) := by
  refine FnS.go [0, 1, 4, 5, 6, 7, 17, 21, 30, 37] [] Tryz.func124 rfl (fun kt kz => ?_)
  have fcx := fc124A94
  simp only [Tryz.f124]
  have n38 : ((⟨#[43]⟩ : ByteArray) = ⟨#[38]⟩) = False := eq_false (by simp)
  have n124 : ((⟨#[43]⟩ : ByteArray) = ⟨#[124]⟩) = False := eq_false (by simp)
  have n33 : ((⟨#[43]⟩ : ByteArray) = ⟨#[33]⟩) = False := eq_false (by simp)
  have n45 : ((⟨#[43]⟩ : ByteArray) = ⟨#[45]⟩) = False := eq_false (by simp)
  refine Run ((ai (ai @n38 @n124) (ai @n33 @n45))) ?_; with_reducible repeat' (first | exact True.intro | refine Lf.mk ?_ ?_ | intro hb)
  refine Trn (α := Nat) [5, 7, 18, 19, 20, 21, 22, 23, 24, 25, 26, 27, 28, 29, 30, 31] (fun i => [(7, iT i)]) (fun i => [(8, .box 43 [.im (.sc (.int .i64 0)), .nl, .nl])]) (fun i => i ≤ t.length ∧ (t.take i).any (fun a => !decide (a.kind = 1)) = false) (fun i => t.length - i) (0) (⟨Nat.zero_le _, rfl⟩) ((ai (ai @n38 @n124) (ai @n33 @n45))) ?_; intro lx hI; obtain i := lx; (try simp only [List.nil_append, List.cons_append] at hI ⊢)
  by_cases hlt : lx < t.length
  · by_cases hk : t[lx].kind = 1
    · have gk := eq_true hk
      refine Run ((ai (ai @eTy_eta (ai @hlt @gk)) (ai (ai @n38 @n124) (ai @n33 @n45)))) ?_; with_reducible repeat' (first | exact True.intro | refine Lf.mk ?_ ?_ | intro hb)
      exact Nxt (@eTy_eta) (lx + 1) (⟨by omega, any_take hlt hI.2 (by simp [hk])⟩) (by first | omega | (simp; omega))
    · have := List.any_eq_false.1 ha _ (List.getElem_mem hlt)
      simp [hk] at this
  · refine Run ((ai (ai @hlt @n38) (ai @n124 (ai @n33 @n45)))) ?_; with_reducible repeat' (first | exact True.intro | refine Lf.mk ?_ ?_ | intro hb)
    refine CalI (@eTy_eta) (sInt_t) ?_
    refine Run (@eTy_eta) ?_; with_reducible repeat' (first | exact True.intro | refine Lf.mk ?_ ?_ | intro hb)
theorem sOp_43_b (t : List Ty) (h : t.length ≤ 2^20) (ha : (t.any fun a => !decide (a.kind = 1)) = true) : FnS Tryz.prog 124 [] [sT ⟨#[43]⟩, slT eTy t] [] (.tp [.ag [.im (.sc (.int .i64 0)), .nl, .nl], bT false]) := by
  refine FnS.go [0, 1, 4, 5, 6, 7, 17, 21, 30, 37] [] Tryz.func124 rfl (fun kt kz => ?_)
  have fcx := fc124A94
  simp only [Tryz.f124]
  have n38 : ((⟨#[43]⟩ : ByteArray) = ⟨#[38]⟩) = False := eq_false (by simp)
  have n124 : ((⟨#[43]⟩ : ByteArray) = ⟨#[124]⟩) = False := eq_false (by simp)
  have n33 : ((⟨#[43]⟩ : ByteArray) = ⟨#[33]⟩) = False := eq_false (by simp)
  have n45 : ((⟨#[43]⟩ : ByteArray) = ⟨#[45]⟩) = False := eq_false (by simp)
  refine Run ((ai (ai @n38 @n124) (ai @n33 @n45))) ?_; with_reducible repeat' (first | exact True.intro | refine Lf.mk ?_ ?_ | intro hb)
  refine Trn (α := Nat) [5, 7, 18, 19, 20, 21, 22, 23, 24, 25, 26, 27, 28, 29, 30, 31] (fun i => [(7, iT i)]) (fun i => [(8, .box 43 [.im (.sc (.int .i64 0)), .nl, .nl])]) (fun i => i ≤ t.length ∧ (t.take i).any (fun a => !decide (a.kind = 1)) = false) (fun i => t.length - i) (0) (⟨Nat.zero_le _, rfl⟩) ((ai (ai @n38 @n124) (ai @n33 @n45))) ?_; intro lx hI; obtain i := lx; (try simp only [List.nil_append, List.cons_append] at hI ⊢)
  by_cases hlt : lx < t.length
  · by_cases hk : t[lx].kind = 1
    · have gk := eq_true hk
      refine Run ((ai (ai @eTy_eta (ai @hlt @gk)) (ai (ai @n38 @n124) (ai @n33 @n45)))) ?_; with_reducible repeat' (first | exact True.intro | refine Lf.mk ?_ ?_ | intro hb)
      exact Nxt (@eTy_eta) (lx + 1) (⟨by omega, any_take hlt hI.2 (by simp [hk])⟩) (by first | omega | (simp; omega))
    · have gk := eq_false hk
      refine Run ((ai (ai @eTy_eta (ai @hlt @gk)) (ai (ai @n38 @n124) (ai @n33 @n45)))) ?_; with_reducible repeat' (first | exact True.intro | refine Lf.mk ?_ ?_ | intro hb)
  · rw [any_all (by omega) hI.2] at ha
    cases ha
theorem sOp_45_a (t : List Ty) (h : t.length ≤ 2^20) (ha : (t.any fun a => !decide (a.kind = 1)) = false) : FnS Tryz.prog 124 [] [sT ⟨#[45]⟩, slT eTy t] [] (.tp [agT (eTy tInt), bT true]) := by
  refine FnS.go [0, 1, 4, 5, 6, 7, 17, 21, 30, 37] [] Tryz.func124 rfl (fun kt kz => ?_)
  have fcx := fc124A94
  simp only [Tryz.f124]
  have n38 : ((⟨#[45]⟩ : ByteArray) = ⟨#[38]⟩) = False := eq_false (by simp)
  have n124 : ((⟨#[45]⟩ : ByteArray) = ⟨#[124]⟩) = False := eq_false (by simp)
  have n33 : ((⟨#[45]⟩ : ByteArray) = ⟨#[33]⟩) = False := eq_false (by simp)
  have n43 : ((⟨#[45]⟩ : ByteArray) = ⟨#[43]⟩) = False := eq_false (by simp)
  refine Run ((ai (ai @n38 @n124) (ai @n33 @n43))) ?_; with_reducible repeat' (first | exact True.intro | refine Lf.mk ?_ ?_ | intro hb)
  refine Trn (α := Nat) [5, 7, 18, 19, 20, 21, 22, 23, 24, 25, 26, 27, 28, 29, 30, 31] (fun i => [(7, iT i)]) (fun i => [(8, .box 43 [.im (.sc (.int .i64 0)), .nl, .nl])]) (fun i => i ≤ t.length ∧ (t.take i).any (fun a => !decide (a.kind = 1)) = false) (fun i => t.length - i) (0) (⟨Nat.zero_le _, rfl⟩) ((ai (ai @n38 @n124) (ai @n33 @n43))) ?_; intro lx hI; obtain i := lx; (try simp only [List.nil_append, List.cons_append] at hI ⊢)
  by_cases hlt : lx < t.length
  · by_cases hk : t[lx].kind = 1
    · have gk := eq_true hk
      refine Run ((ai (ai @eTy_eta (ai @hlt @gk)) (ai (ai @n38 @n124) (ai @n33 @n43)))) ?_; with_reducible repeat' (first | exact True.intro | refine Lf.mk ?_ ?_ | intro hb)
      exact Nxt (@eTy_eta) (lx + 1) (⟨by omega, any_take hlt hI.2 (by simp [hk])⟩) (by first | omega | (simp; omega))
    · have := List.any_eq_false.1 ha _ (List.getElem_mem hlt)
      simp [hk] at this
  · refine Run ((ai (ai @hlt @n38) (ai @n124 (ai @n33 @n43)))) ?_; with_reducible repeat' (first | exact True.intro | refine Lf.mk ?_ ?_ | intro hb)
    refine CalI (@eTy_eta) (sInt_t) ?_
    refine Run (@eTy_eta) ?_; with_reducible repeat' (first | exact True.intro | refine Lf.mk ?_ ?_ | intro hb)
theorem sOp_45_b (t : List Ty) (h : t.length ≤ 2^20) (ha : (t.any fun a => !decide (a.kind = 1)) = true) : FnS Tryz.prog 124 [] [sT ⟨#[45]⟩, slT eTy t] [] (.tp [.ag [.im (.sc (.int .i64 0)), .nl, .nl], bT false]) := by
  refine FnS.go [0, 1, 4, 5, 6, 7, 17, 21, 30, 37] [] Tryz.func124 rfl (fun kt kz => ?_)
  have fcx := fc124A94
  simp only [Tryz.f124]
  have n38 : ((⟨#[45]⟩ : ByteArray) = ⟨#[38]⟩) = False := eq_false (by simp)
  have n124 : ((⟨#[45]⟩ : ByteArray) = ⟨#[124]⟩) = False := eq_false (by simp)
  have n33 : ((⟨#[45]⟩ : ByteArray) = ⟨#[33]⟩) = False := eq_false (by simp)
  have n43 : ((⟨#[45]⟩ : ByteArray) = ⟨#[43]⟩) = False := eq_false (by simp)
  refine Run ((ai (ai @n38 @n124) (ai @n33 @n43))) ?_; with_reducible repeat' (first | exact True.intro | refine Lf.mk ?_ ?_ | intro hb)
  refine Trn (α := Nat) [5, 7, 18, 19, 20, 21, 22, 23, 24, 25, 26, 27, 28, 29, 30, 31] (fun i => [(7, iT i)]) (fun i => [(8, .box 43 [.im (.sc (.int .i64 0)), .nl, .nl])]) (fun i => i ≤ t.length ∧ (t.take i).any (fun a => !decide (a.kind = 1)) = false) (fun i => t.length - i) (0) (⟨Nat.zero_le _, rfl⟩) ((ai (ai @n38 @n124) (ai @n33 @n43))) ?_; intro lx hI; obtain i := lx; (try simp only [List.nil_append, List.cons_append] at hI ⊢)
  by_cases hlt : lx < t.length
  · by_cases hk : t[lx].kind = 1
    · have gk := eq_true hk
      refine Run ((ai (ai @eTy_eta (ai @hlt @gk)) (ai (ai @n38 @n124) (ai @n33 @n43)))) ?_; with_reducible repeat' (first | exact True.intro | refine Lf.mk ?_ ?_ | intro hb)
      exact Nxt (@eTy_eta) (lx + 1) (⟨by omega, any_take hlt hI.2 (by simp [hk])⟩) (by first | omega | (simp; omega))
    · have gk := eq_false hk
      refine Run ((ai (ai @eTy_eta (ai @hlt @gk)) (ai (ai @n38 @n124) (ai @n33 @n43)))) ?_; with_reducible repeat' (first | exact True.intro | refine Lf.mk ?_ ?_ | intro hb)
  · rw [any_all (by omega) hI.2] at ha
    cases ha
theorem sOp_61_a (t : List Ty) (h : t.length ≤ 2^20) (ha : (t.any fun a => !decide (a.kind = 1)) = false) : FnS Tryz.prog 124 [] [sT ⟨#[61]⟩, slT eTy t] [] (.tp [agT (eTy tBool), bT true]) := by
  refine FnS.go [0, 1, 4, 5, 6, 7, 17, 21, 30, 37] [] Tryz.func124 rfl (fun kt kz => ?_)
  have fcx := fc124A94
  simp only [Tryz.f124]
  have n38 : ((⟨#[61]⟩ : ByteArray) = ⟨#[38]⟩) = False := eq_false (by simp)
  have n124 : ((⟨#[61]⟩ : ByteArray) = ⟨#[124]⟩) = False := eq_false (by simp)
  have n33 : ((⟨#[61]⟩ : ByteArray) = ⟨#[33]⟩) = False := eq_false (by simp)
  have n43 : ((⟨#[61]⟩ : ByteArray) = ⟨#[43]⟩) = False := eq_false (by simp)
  have n45 : ((⟨#[61]⟩ : ByteArray) = ⟨#[45]⟩) = False := eq_false (by simp)
  refine Run ((ai (ai @n38 @n124) (ai @n33 (ai @n43 @n45)))) ?_; with_reducible repeat' (first | exact True.intro | refine Lf.mk ?_ ?_ | intro hb)
  refine Trn (α := Nat) [5, 7, 18, 19, 20, 21, 22, 23, 24, 25, 26, 27, 28, 29, 30, 31] (fun i => [(7, iT i)]) (fun i => [(8, .box 43 [.im (.sc (.int .i64 0)), .nl, .nl])]) (fun i => i ≤ t.length ∧ (t.take i).any (fun a => !decide (a.kind = 1)) = false) (fun i => t.length - i) (0) (⟨Nat.zero_le _, rfl⟩) ((ai (ai @n38 @n124) (ai @n33 (ai @n43 @n45)))) ?_; intro lx hI; obtain i := lx; (try simp only [List.nil_append, List.cons_append] at hI ⊢)
  by_cases hlt : lx < t.length
  · by_cases hk : t[lx].kind = 1
    · have gk := eq_true hk
      refine Run ((ai (ai (ai @eTy_eta @hlt) (ai @gk @n38)) (ai (ai @n124 @n33) (ai @n43 @n45)))) ?_; with_reducible repeat' (first | exact True.intro | refine Lf.mk ?_ ?_ | intro hb)
      exact Nxt (@eTy_eta) (lx + 1) (⟨by omega, any_take hlt hI.2 (by simp [hk])⟩) (by first | omega | (simp; omega))
    · have := List.any_eq_false.1 ha _ (List.getElem_mem hlt)
      simp [hk] at this
  · refine Run ((ai (ai @hlt (ai @n38 @n124)) (ai @n33 (ai @n43 @n45)))) ?_; with_reducible repeat' (first | exact True.intro | refine Lf.mk ?_ ?_ | intro hb)
    refine CalI (@eTy_eta) (sBool_t) ?_
    refine Run (@eTy_eta) ?_; with_reducible repeat' (first | exact True.intro | refine Lf.mk ?_ ?_ | intro hb)
theorem sOp_61_b (t : List Ty) (h : t.length ≤ 2^20) (ha : (t.any fun a => !decide (a.kind = 1)) = true) : FnS Tryz.prog 124 [] [sT ⟨#[61]⟩, slT eTy t] [] (.tp [.ag [.im (.sc (.int .i64 0)), .nl, .nl], bT false]) := by
  refine FnS.go [0, 1, 4, 5, 6, 7, 17, 21, 30, 37] [] Tryz.func124 rfl (fun kt kz => ?_)
  have fcx := fc124A94
  simp only [Tryz.f124]
  have n38 : ((⟨#[61]⟩ : ByteArray) = ⟨#[38]⟩) = False := eq_false (by simp)
  have n124 : ((⟨#[61]⟩ : ByteArray) = ⟨#[124]⟩) = False := eq_false (by simp)
  have n33 : ((⟨#[61]⟩ : ByteArray) = ⟨#[33]⟩) = False := eq_false (by simp)
  have n43 : ((⟨#[61]⟩ : ByteArray) = ⟨#[43]⟩) = False := eq_false (by simp)
  have n45 : ((⟨#[61]⟩ : ByteArray) = ⟨#[45]⟩) = False := eq_false (by simp)
  refine Run ((ai (ai @n38 @n124) (ai @n33 (ai @n43 @n45)))) ?_; with_reducible repeat' (first | exact True.intro | refine Lf.mk ?_ ?_ | intro hb)
  refine Trn (α := Nat) [5, 7, 18, 19, 20, 21, 22, 23, 24, 25, 26, 27, 28, 29, 30, 31] (fun i => [(7, iT i)]) (fun i => [(8, .box 43 [.im (.sc (.int .i64 0)), .nl, .nl])]) (fun i => i ≤ t.length ∧ (t.take i).any (fun a => !decide (a.kind = 1)) = false) (fun i => t.length - i) (0) (⟨Nat.zero_le _, rfl⟩) ((ai (ai @n38 @n124) (ai @n33 (ai @n43 @n45)))) ?_; intro lx hI; obtain i := lx; (try simp only [List.nil_append, List.cons_append] at hI ⊢)
  by_cases hlt : lx < t.length
  · by_cases hk : t[lx].kind = 1
    · have gk := eq_true hk
      refine Run ((ai (ai (ai @eTy_eta @hlt) (ai @gk @n38)) (ai (ai @n124 @n33) (ai @n43 @n45)))) ?_; with_reducible repeat' (first | exact True.intro | refine Lf.mk ?_ ?_ | intro hb)
      exact Nxt (@eTy_eta) (lx + 1) (⟨by omega, any_take hlt hI.2 (by simp [hk])⟩) (by first | omega | (simp; omega))
    · have gk := eq_false hk
      refine Run ((ai (ai (ai @eTy_eta @hlt) (ai @gk @n38)) (ai (ai @n124 @n33) (ai @n43 @n45)))) ?_; with_reducible repeat' (first | exact True.intro | refine Lf.mk ?_ ?_ | intro hb)
  · rw [any_all (by omega) hI.2] at ha
    cases ha
theorem sOp_60_a (t : List Ty) (h : t.length ≤ 2^20) (ha : (t.any fun a => !decide (a.kind = 1)) = false) : FnS Tryz.prog 124 [] [sT ⟨#[60]⟩, slT eTy t] [] (.tp [agT (eTy tBool), bT true]) := by
  refine FnS.go [0, 1, 4, 5, 6, 7, 17, 21, 30, 37] [] Tryz.func124 rfl (fun kt kz => ?_)
  have fcx := fc124A94
  simp only [Tryz.f124]
  have n38 : ((⟨#[60]⟩ : ByteArray) = ⟨#[38]⟩) = False := eq_false (by simp)
  have n124 : ((⟨#[60]⟩ : ByteArray) = ⟨#[124]⟩) = False := eq_false (by simp)
  have n33 : ((⟨#[60]⟩ : ByteArray) = ⟨#[33]⟩) = False := eq_false (by simp)
  have n43 : ((⟨#[60]⟩ : ByteArray) = ⟨#[43]⟩) = False := eq_false (by simp)
  have n45 : ((⟨#[60]⟩ : ByteArray) = ⟨#[45]⟩) = False := eq_false (by simp)
  refine Run ((ai (ai @n38 @n124) (ai @n33 (ai @n43 @n45)))) ?_; with_reducible repeat' (first | exact True.intro | refine Lf.mk ?_ ?_ | intro hb)
  refine Trn (α := Nat) [5, 7, 18, 19, 20, 21, 22, 23, 24, 25, 26, 27, 28, 29, 30, 31] (fun i => [(7, iT i)]) (fun i => [(8, .box 43 [.im (.sc (.int .i64 0)), .nl, .nl])]) (fun i => i ≤ t.length ∧ (t.take i).any (fun a => !decide (a.kind = 1)) = false) (fun i => t.length - i) (0) (⟨Nat.zero_le _, rfl⟩) ((ai (ai @n38 @n124) (ai @n33 (ai @n43 @n45)))) ?_; intro lx hI; obtain i := lx; (try simp only [List.nil_append, List.cons_append] at hI ⊢)
  by_cases hlt : lx < t.length
  · by_cases hk : t[lx].kind = 1
    · have gk := eq_true hk
      refine Run ((ai (ai (ai @eTy_eta @hlt) (ai @gk @n38)) (ai (ai @n124 @n33) (ai @n43 @n45)))) ?_; with_reducible repeat' (first | exact True.intro | refine Lf.mk ?_ ?_ | intro hb)
      exact Nxt (@eTy_eta) (lx + 1) (⟨by omega, any_take hlt hI.2 (by simp [hk])⟩) (by first | omega | (simp; omega))
    · have := List.any_eq_false.1 ha _ (List.getElem_mem hlt)
      simp [hk] at this
  · refine Run ((ai (ai @hlt (ai @n38 @n124)) (ai @n33 (ai @n43 @n45)))) ?_; with_reducible repeat' (first | exact True.intro | refine Lf.mk ?_ ?_ | intro hb)
    refine CalI (@eTy_eta) (sBool_t) ?_
    refine Run (@eTy_eta) ?_; with_reducible repeat' (first | exact True.intro | refine Lf.mk ?_ ?_ | intro hb)
theorem sOp_60_b (t : List Ty) (h : t.length ≤ 2^20) (ha : (t.any fun a => !decide (a.kind = 1)) = true) : FnS Tryz.prog 124 [] [sT ⟨#[60]⟩, slT eTy t] [] (.tp [.ag [.im (.sc (.int .i64 0)), .nl, .nl], bT false]) := by
  refine FnS.go [0, 1, 4, 5, 6, 7, 17, 21, 30, 37] [] Tryz.func124 rfl (fun kt kz => ?_)
  have fcx := fc124A94
  simp only [Tryz.f124]
  have n38 : ((⟨#[60]⟩ : ByteArray) = ⟨#[38]⟩) = False := eq_false (by simp)
  have n124 : ((⟨#[60]⟩ : ByteArray) = ⟨#[124]⟩) = False := eq_false (by simp)
  have n33 : ((⟨#[60]⟩ : ByteArray) = ⟨#[33]⟩) = False := eq_false (by simp)
  have n43 : ((⟨#[60]⟩ : ByteArray) = ⟨#[43]⟩) = False := eq_false (by simp)
  have n45 : ((⟨#[60]⟩ : ByteArray) = ⟨#[45]⟩) = False := eq_false (by simp)
  refine Run ((ai (ai @n38 @n124) (ai @n33 (ai @n43 @n45)))) ?_; with_reducible repeat' (first | exact True.intro | refine Lf.mk ?_ ?_ | intro hb)
  refine Trn (α := Nat) [5, 7, 18, 19, 20, 21, 22, 23, 24, 25, 26, 27, 28, 29, 30, 31] (fun i => [(7, iT i)]) (fun i => [(8, .box 43 [.im (.sc (.int .i64 0)), .nl, .nl])]) (fun i => i ≤ t.length ∧ (t.take i).any (fun a => !decide (a.kind = 1)) = false) (fun i => t.length - i) (0) (⟨Nat.zero_le _, rfl⟩) ((ai (ai @n38 @n124) (ai @n33 (ai @n43 @n45)))) ?_; intro lx hI; obtain i := lx; (try simp only [List.nil_append, List.cons_append] at hI ⊢)
  by_cases hlt : lx < t.length
  · by_cases hk : t[lx].kind = 1
    · have gk := eq_true hk
      refine Run ((ai (ai (ai @eTy_eta @hlt) (ai @gk @n38)) (ai (ai @n124 @n33) (ai @n43 @n45)))) ?_; with_reducible repeat' (first | exact True.intro | refine Lf.mk ?_ ?_ | intro hb)
      exact Nxt (@eTy_eta) (lx + 1) (⟨by omega, any_take hlt hI.2 (by simp [hk])⟩) (by first | omega | (simp; omega))
    · have gk := eq_false hk
      refine Run ((ai (ai (ai @eTy_eta @hlt) (ai @gk @n38)) (ai (ai @n124 @n33) (ai @n43 @n45)))) ?_; with_reducible repeat' (first | exact True.intro | refine Lf.mk ?_ ?_ | intro hb)
  · rw [any_all (by omega) hI.2] at ha
    cases ha
theorem sOp_38_a (t : List Ty) (h : t.length ≤ 2^20) (ha : (t.any fun a => !decide (a.kind = 2)) = false) : FnS Tryz.prog 124 [] [sT ⟨#[38]⟩, slT eTy t] [] (.tp [agT (eTy tBool), bT true]) := by
  refine FnS.go [0, 1, 4, 5, 6, 7, 17, 21, 30, 37] [] Tryz.func124 rfl (fun kt kz => ?_)
  have fcx := fc124A94
  simp only [Tryz.f124]
  have n124 : ((⟨#[38]⟩ : ByteArray) = ⟨#[124]⟩) = False := eq_false (by simp)
  have n33 : ((⟨#[38]⟩ : ByteArray) = ⟨#[33]⟩) = False := eq_false (by simp)
  have n43 : ((⟨#[38]⟩ : ByteArray) = ⟨#[43]⟩) = False := eq_false (by simp)
  have n45 : ((⟨#[38]⟩ : ByteArray) = ⟨#[45]⟩) = False := eq_false (by simp)
  refine Run ((ai (ai @n124 @n33) (ai @n43 @n45))) ?_; with_reducible repeat' (first | exact True.intro | refine Lf.mk ?_ ?_ | intro hb)
  refine Trn (α := Nat) [5, 7, 18, 19, 20, 21, 22, 23, 24, 25, 26, 27, 28, 29, 30, 31] (fun i => [(7, iT i)]) (fun i => [(8, .box 43 [.im (.sc (.int .i64 0)), .nl, .nl])]) (fun i => i ≤ t.length ∧ (t.take i).any (fun a => !decide (a.kind = 2)) = false) (fun i => t.length - i) (0) (⟨Nat.zero_le _, rfl⟩) ((ai (ai @n124 @n33) (ai @n43 @n45))) ?_; intro lx hI; obtain i := lx; (try simp only [List.nil_append, List.cons_append] at hI ⊢)
  by_cases hlt : lx < t.length
  · by_cases hk : t[lx].kind = 2
    · have gk := eq_true hk
      refine Run ((ai (ai @eTy_eta (ai @hlt @gk)) (ai (ai @n124 @n33) (ai @n43 @n45)))) ?_; with_reducible repeat' (first | exact True.intro | refine Lf.mk ?_ ?_ | intro hb)
      exact Nxt (@eTy_eta) (lx + 1) (⟨by omega, any_take hlt hI.2 (by simp [hk])⟩) (by first | omega | (simp; omega))
    · have := List.any_eq_false.1 ha _ (List.getElem_mem hlt)
      simp [hk] at this
  · refine Run ((ai (ai @hlt @n124) (ai @n33 (ai @n43 @n45)))) ?_; with_reducible repeat' (first | exact True.intro | refine Lf.mk ?_ ?_ | intro hb)
    refine CalI (@eTy_eta) (sBool_t) ?_
    refine Run (@eTy_eta) ?_; with_reducible repeat' (first | exact True.intro | refine Lf.mk ?_ ?_ | intro hb)
theorem sOp_38_b (t : List Ty) (h : t.length ≤ 2^20) (ha : (t.any fun a => !decide (a.kind = 2)) = true) : FnS Tryz.prog 124 [] [sT ⟨#[38]⟩, slT eTy t] [] (.tp [.ag [.im (.sc (.int .i64 0)), .nl, .nl], bT false]) := by
  refine FnS.go [0, 1, 4, 5, 6, 7, 17, 21, 30, 37] [] Tryz.func124 rfl (fun kt kz => ?_)
  have fcx := fc124A94
  simp only [Tryz.f124]
  have n124 : ((⟨#[38]⟩ : ByteArray) = ⟨#[124]⟩) = False := eq_false (by simp)
  have n33 : ((⟨#[38]⟩ : ByteArray) = ⟨#[33]⟩) = False := eq_false (by simp)
  have n43 : ((⟨#[38]⟩ : ByteArray) = ⟨#[43]⟩) = False := eq_false (by simp)
  have n45 : ((⟨#[38]⟩ : ByteArray) = ⟨#[45]⟩) = False := eq_false (by simp)
  refine Run ((ai (ai @n124 @n33) (ai @n43 @n45))) ?_; with_reducible repeat' (first | exact True.intro | refine Lf.mk ?_ ?_ | intro hb)
  refine Trn (α := Nat) [5, 7, 18, 19, 20, 21, 22, 23, 24, 25, 26, 27, 28, 29, 30, 31] (fun i => [(7, iT i)]) (fun i => [(8, .box 43 [.im (.sc (.int .i64 0)), .nl, .nl])]) (fun i => i ≤ t.length ∧ (t.take i).any (fun a => !decide (a.kind = 2)) = false) (fun i => t.length - i) (0) (⟨Nat.zero_le _, rfl⟩) ((ai (ai @n124 @n33) (ai @n43 @n45))) ?_; intro lx hI; obtain i := lx; (try simp only [List.nil_append, List.cons_append] at hI ⊢)
  by_cases hlt : lx < t.length
  · by_cases hk : t[lx].kind = 2
    · have gk := eq_true hk
      refine Run ((ai (ai @eTy_eta (ai @hlt @gk)) (ai (ai @n124 @n33) (ai @n43 @n45)))) ?_; with_reducible repeat' (first | exact True.intro | refine Lf.mk ?_ ?_ | intro hb)
      exact Nxt (@eTy_eta) (lx + 1) (⟨by omega, any_take hlt hI.2 (by simp [hk])⟩) (by first | omega | (simp; omega))
    · have gk := eq_false hk
      refine Run ((ai (ai @eTy_eta (ai @hlt @gk)) (ai (ai @n124 @n33) (ai @n43 @n45)))) ?_; with_reducible repeat' (first | exact True.intro | refine Lf.mk ?_ ?_ | intro hb)
  · rw [any_all (by omega) hI.2] at ha
    cases ha
theorem sOp_124_a (t : List Ty) (h : t.length ≤ 2^20) (ha : (t.any fun a => !decide (a.kind = 2)) = false) : FnS Tryz.prog 124 [] [sT ⟨#[124]⟩, slT eTy t] [] (.tp [agT (eTy tBool), bT true]) := by
  refine FnS.go [0, 1, 4, 5, 6, 7, 17, 21, 30, 37] [] Tryz.func124 rfl (fun kt kz => ?_)
  have fcx := fc124A94
  simp only [Tryz.f124]
  have n38 : ((⟨#[124]⟩ : ByteArray) = ⟨#[38]⟩) = False := eq_false (by simp)
  have n33 : ((⟨#[124]⟩ : ByteArray) = ⟨#[33]⟩) = False := eq_false (by simp)
  have n43 : ((⟨#[124]⟩ : ByteArray) = ⟨#[43]⟩) = False := eq_false (by simp)
  have n45 : ((⟨#[124]⟩ : ByteArray) = ⟨#[45]⟩) = False := eq_false (by simp)
  refine Run ((ai (ai @n38 @n33) (ai @n43 @n45))) ?_; with_reducible repeat' (first | exact True.intro | refine Lf.mk ?_ ?_ | intro hb)
  refine Trn (α := Nat) [5, 7, 18, 19, 20, 21, 22, 23, 24, 25, 26, 27, 28, 29, 30, 31] (fun i => [(7, iT i)]) (fun i => [(8, .box 43 [.im (.sc (.int .i64 0)), .nl, .nl])]) (fun i => i ≤ t.length ∧ (t.take i).any (fun a => !decide (a.kind = 2)) = false) (fun i => t.length - i) (0) (⟨Nat.zero_le _, rfl⟩) ((ai (ai @n38 @n33) (ai @n43 @n45))) ?_; intro lx hI; obtain i := lx; (try simp only [List.nil_append, List.cons_append] at hI ⊢)
  by_cases hlt : lx < t.length
  · by_cases hk : t[lx].kind = 2
    · have gk := eq_true hk
      refine Run ((ai (ai @eTy_eta (ai @hlt @gk)) (ai (ai @n38 @n33) (ai @n43 @n45)))) ?_; with_reducible repeat' (first | exact True.intro | refine Lf.mk ?_ ?_ | intro hb)
      exact Nxt (@eTy_eta) (lx + 1) (⟨by omega, any_take hlt hI.2 (by simp [hk])⟩) (by first | omega | (simp; omega))
    · have := List.any_eq_false.1 ha _ (List.getElem_mem hlt)
      simp [hk] at this
  · refine Run ((ai (ai @hlt @n38) (ai @n33 (ai @n43 @n45)))) ?_; with_reducible repeat' (first | exact True.intro | refine Lf.mk ?_ ?_ | intro hb)
    refine CalI (@eTy_eta) (sBool_t) ?_
    refine Run (@eTy_eta) ?_; with_reducible repeat' (first | exact True.intro | refine Lf.mk ?_ ?_ | intro hb)
theorem sOp_124_b (t : List Ty) (h : t.length ≤ 2^20) (ha : (t.any fun a => !decide (a.kind = 2)) = true) : FnS Tryz.prog 124 [] [sT ⟨#[124]⟩, slT eTy t] [] (.tp [.ag [.im (.sc (.int .i64 0)), .nl, .nl], bT false]) := by
  refine FnS.go [0, 1, 4, 5, 6, 7, 17, 21, 30, 37] [] Tryz.func124 rfl (fun kt kz => ?_)
  have fcx := fc124A94
  simp only [Tryz.f124]
  have n38 : ((⟨#[124]⟩ : ByteArray) = ⟨#[38]⟩) = False := eq_false (by simp)
  have n33 : ((⟨#[124]⟩ : ByteArray) = ⟨#[33]⟩) = False := eq_false (by simp)
  have n43 : ((⟨#[124]⟩ : ByteArray) = ⟨#[43]⟩) = False := eq_false (by simp)
  have n45 : ((⟨#[124]⟩ : ByteArray) = ⟨#[45]⟩) = False := eq_false (by simp)
  refine Run ((ai (ai @n38 @n33) (ai @n43 @n45))) ?_; with_reducible repeat' (first | exact True.intro | refine Lf.mk ?_ ?_ | intro hb)
  refine Trn (α := Nat) [5, 7, 18, 19, 20, 21, 22, 23, 24, 25, 26, 27, 28, 29, 30, 31] (fun i => [(7, iT i)]) (fun i => [(8, .box 43 [.im (.sc (.int .i64 0)), .nl, .nl])]) (fun i => i ≤ t.length ∧ (t.take i).any (fun a => !decide (a.kind = 2)) = false) (fun i => t.length - i) (0) (⟨Nat.zero_le _, rfl⟩) ((ai (ai @n38 @n33) (ai @n43 @n45))) ?_; intro lx hI; obtain i := lx; (try simp only [List.nil_append, List.cons_append] at hI ⊢)
  by_cases hlt : lx < t.length
  · by_cases hk : t[lx].kind = 2
    · have gk := eq_true hk
      refine Run ((ai (ai @eTy_eta (ai @hlt @gk)) (ai (ai @n38 @n33) (ai @n43 @n45)))) ?_; with_reducible repeat' (first | exact True.intro | refine Lf.mk ?_ ?_ | intro hb)
      exact Nxt (@eTy_eta) (lx + 1) (⟨by omega, any_take hlt hI.2 (by simp [hk])⟩) (by first | omega | (simp; omega))
    · have gk := eq_false hk
      refine Run ((ai (ai @eTy_eta (ai @hlt @gk)) (ai (ai @n38 @n33) (ai @n43 @n45)))) ?_; with_reducible repeat' (first | exact True.intro | refine Lf.mk ?_ ?_ | intro hb)
  · rw [any_all (by omega) hI.2] at ha
    cases ha
theorem sOp_33_a (t : List Ty) (h : t.length ≤ 2^20) (ha : (t.any fun a => !decide (a.kind = 2)) = false) : FnS Tryz.prog 124 [] [sT ⟨#[33]⟩, slT eTy t] [] (.tp [agT (eTy tBool), bT true]) := by
  refine FnS.go [0, 1, 4, 5, 6, 7, 17, 21, 30, 37] [] Tryz.func124 rfl (fun kt kz => ?_)
  have fcx := fc124A94
  simp only [Tryz.f124]
  have n38 : ((⟨#[33]⟩ : ByteArray) = ⟨#[38]⟩) = False := eq_false (by simp)
  have n124 : ((⟨#[33]⟩ : ByteArray) = ⟨#[124]⟩) = False := eq_false (by simp)
  have n43 : ((⟨#[33]⟩ : ByteArray) = ⟨#[43]⟩) = False := eq_false (by simp)
  have n45 : ((⟨#[33]⟩ : ByteArray) = ⟨#[45]⟩) = False := eq_false (by simp)
  refine Run ((ai (ai @n38 @n124) (ai @n43 @n45))) ?_; with_reducible repeat' (first | exact True.intro | refine Lf.mk ?_ ?_ | intro hb)
  refine Trn (α := Nat) [5, 7, 18, 19, 20, 21, 22, 23, 24, 25, 26, 27, 28, 29, 30, 31] (fun i => [(7, iT i)]) (fun i => [(8, .box 43 [.im (.sc (.int .i64 0)), .nl, .nl])]) (fun i => i ≤ t.length ∧ (t.take i).any (fun a => !decide (a.kind = 2)) = false) (fun i => t.length - i) (0) (⟨Nat.zero_le _, rfl⟩) ((ai (ai @n38 @n124) (ai @n43 @n45))) ?_; intro lx hI; obtain i := lx; (try simp only [List.nil_append, List.cons_append] at hI ⊢)
  by_cases hlt : lx < t.length
  · by_cases hk : t[lx].kind = 2
    · have gk := eq_true hk
      refine Run ((ai (ai @eTy_eta (ai @hlt @gk)) (ai (ai @n38 @n124) (ai @n43 @n45)))) ?_; with_reducible repeat' (first | exact True.intro | refine Lf.mk ?_ ?_ | intro hb)
      exact Nxt (@eTy_eta) (lx + 1) (⟨by omega, any_take hlt hI.2 (by simp [hk])⟩) (by first | omega | (simp; omega))
    · have := List.any_eq_false.1 ha _ (List.getElem_mem hlt)
      simp [hk] at this
  · refine Run ((ai (ai @hlt @n38) (ai @n124 (ai @n43 @n45)))) ?_; with_reducible repeat' (first | exact True.intro | refine Lf.mk ?_ ?_ | intro hb)
    refine CalI (@eTy_eta) (sBool_t) ?_
    refine Run (@eTy_eta) ?_; with_reducible repeat' (first | exact True.intro | refine Lf.mk ?_ ?_ | intro hb)
theorem sOp_33_b (t : List Ty) (h : t.length ≤ 2^20) (ha : (t.any fun a => !decide (a.kind = 2)) = true) : FnS Tryz.prog 124 [] [sT ⟨#[33]⟩, slT eTy t] [] (.tp [.ag [.im (.sc (.int .i64 0)), .nl, .nl], bT false]) := by
  refine FnS.go [0, 1, 4, 5, 6, 7, 17, 21, 30, 37] [] Tryz.func124 rfl (fun kt kz => ?_)
  have fcx := fc124A94
  simp only [Tryz.f124]
  have n38 : ((⟨#[33]⟩ : ByteArray) = ⟨#[38]⟩) = False := eq_false (by simp)
  have n124 : ((⟨#[33]⟩ : ByteArray) = ⟨#[124]⟩) = False := eq_false (by simp)
  have n43 : ((⟨#[33]⟩ : ByteArray) = ⟨#[43]⟩) = False := eq_false (by simp)
  have n45 : ((⟨#[33]⟩ : ByteArray) = ⟨#[45]⟩) = False := eq_false (by simp)
  refine Run ((ai (ai @n38 @n124) (ai @n43 @n45))) ?_; with_reducible repeat' (first | exact True.intro | refine Lf.mk ?_ ?_ | intro hb)
  refine Trn (α := Nat) [5, 7, 18, 19, 20, 21, 22, 23, 24, 25, 26, 27, 28, 29, 30, 31] (fun i => [(7, iT i)]) (fun i => [(8, .box 43 [.im (.sc (.int .i64 0)), .nl, .nl])]) (fun i => i ≤ t.length ∧ (t.take i).any (fun a => !decide (a.kind = 2)) = false) (fun i => t.length - i) (0) (⟨Nat.zero_le _, rfl⟩) ((ai (ai @n38 @n124) (ai @n43 @n45))) ?_; intro lx hI; obtain i := lx; (try simp only [List.nil_append, List.cons_append] at hI ⊢)
  by_cases hlt : lx < t.length
  · by_cases hk : t[lx].kind = 2
    · have gk := eq_true hk
      refine Run ((ai (ai @eTy_eta (ai @hlt @gk)) (ai (ai @n38 @n124) (ai @n43 @n45)))) ?_; with_reducible repeat' (first | exact True.intro | refine Lf.mk ?_ ?_ | intro hb)
      exact Nxt (@eTy_eta) (lx + 1) (⟨by omega, any_take hlt hI.2 (by simp [hk])⟩) (by first | omega | (simp; omega))
    · have gk := eq_false hk
      refine Run ((ai (ai @eTy_eta (ai @hlt @gk)) (ai (ai @n38 @n124) (ai @n43 @n45)))) ?_; with_reducible repeat' (first | exact True.intro | refine Lf.mk ?_ ?_ | intro hb)
  · rw [any_all (by omega) hI.2] at ha
    cases ha

theorem specOp_ok (s : ByteArray) (hs : opAr s ≠ 0) (t : List Ty) (h : t.length ≤ 2^20) : FnP Tryz.prog 124 [sT s, slT eTy t] (.tp [agT (eTy ((opT s t).getD ty0)), bT (opT s t).isSome]) := by
  have hc : s = ⟨#[43]⟩ ∨ s = ⟨#[45]⟩ ∨ s = ⟨#[61]⟩ ∨ s = ⟨#[60]⟩ ∨ s = ⟨#[38]⟩ ∨ s = ⟨#[124]⟩ ∨ s = ⟨#[33]⟩ := by
    unfold opAr at hs
    split at hs
    · rename_i h; rcases h with h | h | h | h | h | h
      · exact .inl h
      · exact .inr (.inl h)
      · exact .inr (.inr (.inl h))
      · exact .inr (.inr (.inr (.inl h)))
      · exact .inr (.inr (.inr (.inr (.inl h))))
      · exact .inr (.inr (.inr (.inr (.inr (.inl h)))))
    · split at hs
      · rename_i h; exact .inr (.inr (.inr (.inr (.inr (.inr h)))))
      · exact absurd rfl hs
  rw [opT_eq]
  rcases hc with rfl | rfl | rfl | rfl | rfl | rfl | rfl
  · have e : (if (⟨#[43]⟩ : ByteArray) = opAnd ∨ (⟨#[43]⟩ : ByteArray) = opOr ∨ (⟨#[43]⟩ : ByteArray) = opNot then (2 : Int) else 1) = 1 := by simp [opAnd, opOr, opNot]
    have e2 : (if (⟨#[43]⟩ : ByteArray) = opPlus ∨ (⟨#[43]⟩ : ByteArray) = opMinus then tInt else tBool) = tInt := by simp [opPlus, opMinus]
    rw [e, e2]
    cases ha : (t.any fun a => !decide (a.kind = 1)) with
    | false => exact sOp_43_a t h ha
    | true => exact (sOp_43_b t h ha).treeP rfl
  · have e : (if (⟨#[45]⟩ : ByteArray) = opAnd ∨ (⟨#[45]⟩ : ByteArray) = opOr ∨ (⟨#[45]⟩ : ByteArray) = opNot then (2 : Int) else 1) = 1 := by simp [opAnd, opOr, opNot]
    have e2 : (if (⟨#[45]⟩ : ByteArray) = opPlus ∨ (⟨#[45]⟩ : ByteArray) = opMinus then tInt else tBool) = tInt := by simp [opPlus, opMinus]
    rw [e, e2]
    cases ha : (t.any fun a => !decide (a.kind = 1)) with
    | false => exact sOp_45_a t h ha
    | true => exact (sOp_45_b t h ha).treeP rfl
  · have e : (if (⟨#[61]⟩ : ByteArray) = opAnd ∨ (⟨#[61]⟩ : ByteArray) = opOr ∨ (⟨#[61]⟩ : ByteArray) = opNot then (2 : Int) else 1) = 1 := by simp [opAnd, opOr, opNot]
    have e2 : (if (⟨#[61]⟩ : ByteArray) = opPlus ∨ (⟨#[61]⟩ : ByteArray) = opMinus then tInt else tBool) = tBool := by simp [opPlus, opMinus]
    rw [e, e2]
    cases ha : (t.any fun a => !decide (a.kind = 1)) with
    | false => exact sOp_61_a t h ha
    | true => exact (sOp_61_b t h ha).treeP rfl
  · have e : (if (⟨#[60]⟩ : ByteArray) = opAnd ∨ (⟨#[60]⟩ : ByteArray) = opOr ∨ (⟨#[60]⟩ : ByteArray) = opNot then (2 : Int) else 1) = 1 := by simp [opAnd, opOr, opNot]
    have e2 : (if (⟨#[60]⟩ : ByteArray) = opPlus ∨ (⟨#[60]⟩ : ByteArray) = opMinus then tInt else tBool) = tBool := by simp [opPlus, opMinus]
    rw [e, e2]
    cases ha : (t.any fun a => !decide (a.kind = 1)) with
    | false => exact sOp_60_a t h ha
    | true => exact (sOp_60_b t h ha).treeP rfl
  · have e : (if (⟨#[38]⟩ : ByteArray) = opAnd ∨ (⟨#[38]⟩ : ByteArray) = opOr ∨ (⟨#[38]⟩ : ByteArray) = opNot then (2 : Int) else 1) = 2 := by simp [opAnd, opOr, opNot]
    have e2 : (if (⟨#[38]⟩ : ByteArray) = opPlus ∨ (⟨#[38]⟩ : ByteArray) = opMinus then tInt else tBool) = tBool := by simp [opPlus, opMinus]
    rw [e, e2]
    cases ha : (t.any fun a => !decide (a.kind = 2)) with
    | false => exact sOp_38_a t h ha
    | true => exact (sOp_38_b t h ha).treeP rfl
  · have e : (if (⟨#[124]⟩ : ByteArray) = opAnd ∨ (⟨#[124]⟩ : ByteArray) = opOr ∨ (⟨#[124]⟩ : ByteArray) = opNot then (2 : Int) else 1) = 2 := by simp [opAnd, opOr, opNot]
    have e2 : (if (⟨#[124]⟩ : ByteArray) = opPlus ∨ (⟨#[124]⟩ : ByteArray) = opMinus then tInt else tBool) = tBool := by simp [opPlus, opMinus]
    rw [e, e2]
    cases ha : (t.any fun a => !decide (a.kind = 2)) with
    | false => exact sOp_124_a t h ha
    | true => exact (sOp_124_b t h ha).treeP rfl
  · have e : (if (⟨#[33]⟩ : ByteArray) = opAnd ∨ (⟨#[33]⟩ : ByteArray) = opOr ∨ (⟨#[33]⟩ : ByteArray) = opNot then (2 : Int) else 1) = 2 := by simp [opAnd, opOr, opNot]
    have e2 : (if (⟨#[33]⟩ : ByteArray) = opPlus ∨ (⟨#[33]⟩ : ByteArray) = opMinus then tInt else tBool) = tBool := by simp [opPlus, opMinus]
    rw [e, e2]
    cases ha : (t.any fun a => !decide (a.kind = 2)) with
    | false => exact sOp_33_a t h ha
    | true => exact (sOp_33_b t h ha).treeP rfl
def fc89A94 := (ai (ai (ai (ai (ai sz3 ag3) (ai zv3 un3)) (ai (ai sz4 ag4) (ai zv4 un4))) (ai (ai (ai sz9 ag9) (ai zv9 un9)) (ai (ai sz25 ag25) (ai zv25 sb25)))) (ai (ai (ai (ai un25 el25) (ai ap25 sz46)) (ai (ai ag46 zv46) (ai fl46_0 fl46_1))) (ai (ai (ai fl46_2 fl46_3) (ai fl46_4 fl46_5)) (ai (ai pl46 okf104) (ai sz43 sz44)))))
theorem l7Arity_ok (t : Tm) (h : okTm (2^20) t) : FnS Tryz.prog 89 [] [agT (eTm t)] [] (iT (arS t)) := by
  refine FnS.go [0, 1, 2, 4, 5, 11, 16, 21, 27, 31] [] Tryz.func89 rfl (fun kt kz => ?_)
  have fcx := fc89A94
  simp only [Tryz.f89]
  by_cases h1 : t.kind = 1
  · have e1 : arS t = 0 := by simp [arS, h1]
    refine Run ((ai (ai @eTm_eta @eTy_eta) (ai @h1 @e1))) ?_; with_reducible repeat' (first | exact True.intro | refine Lf.mk ?_ ?_ | intro hb)
  · have g1 := eq_false h1
    by_cases h2 : t.kind = 2
    · have e1 : arS t = 0 := by simp [arS, h2]
      refine Run ((ai (ai @eTm_eta @eTy_eta) (ai @h2 @e1))) ?_; with_reducible repeat' (first | exact True.intro | refine Lf.mk ?_ ?_ | intro hb)
    · have g2 := eq_false h2
      by_cases h3 : t.kind = 3
      · have e1 : arS t = 0 := by simp [arS, h3]
        refine Run ((ai (ai @eTm_eta @eTy_eta) (ai @h3 @e1))) ?_; with_reducible repeat' (first | exact True.intro | refine Lf.mk ?_ ?_ | intro hb)
      · have g3 := eq_false h3
        by_cases h7 : t.kind = 7
        · have e1 : arS t = 0 := by simp [arS, h7]
          refine Run ((ai (ai @eTm_eta @eTy_eta) (ai @h7 @e1))) ?_; with_reducible repeat' (first | exact True.intro | refine Lf.mk ?_ ?_ | intro hb)
        · have g7 := eq_false h7
          by_cases h12 : t.kind = 12
          · have e1 : arS t = 0 := by simp [arS, h12]
            refine Run ((ai (ai @eTm_eta @eTy_eta) (ai @h12 @e1))) ?_; with_reducible repeat' (first | exact True.intro | refine Lf.mk ?_ ?_ | intro hb)
          · have g12 := eq_false h12
            by_cases h4 : t.kind = 4
            · have e1 : arS t = (opAr t.name : Int) := by simp [arS, h4]
              refine Run ((ai @eTm_eta (ai @eTy_eta @h4))) ?_; with_reducible repeat' (first | exact True.intro | refine Lf.mk ?_ ?_ | intro hb)
              refine Cal ((ai @eTm_eta @eTy_eta)) (specArity_ok t.name) ?_
              refine Run ((ai @eTm_eta (ai @eTy_eta @e1))) ?_; with_reducible repeat' (first | exact True.intro | refine Lf.mk ?_ ?_ | intro hb)
            · have g4 := eq_false h4
              by_cases h5 : t.kind = 5
              · have e1 : arS t = (t.labels.length : Int) := by simp [arS, h5]
                refine Run ((ai (ai @eTm_eta @eTy_eta) (ai @h5 @e1))) ?_; with_reducible repeat' (first | exact True.intro | refine Lf.mk ?_ ?_ | intro hb)
              · have g5 := eq_false h5
                by_cases h6 : t.kind = 6
                · have e1 : arS t = 1 := by simp [arS, h6]
                  refine Run ((ai (ai @eTm_eta @eTy_eta) (ai @h6 @e1))) ?_; with_reducible repeat' (first | exact True.intro | refine Lf.mk ?_ ?_ | intro hb)
                · have g6 := eq_false h6
                  by_cases h8 : t.kind = 8
                  · have e1 : arS t = 1 := by simp [arS, h8]
                    refine Run ((ai (ai @eTm_eta @eTy_eta) (ai @h8 @e1))) ?_; with_reducible repeat' (first | exact True.intro | refine Lf.mk ?_ ?_ | intro hb)
                  · have g8 := eq_false h8
                    by_cases h13 : t.kind = 13
                    · have e1 : arS t = 1 := by simp [arS, h13]
                      refine Run ((ai (ai @eTm_eta @eTy_eta) (ai @h13 @e1))) ?_; with_reducible repeat' (first | exact True.intro | refine Lf.mk ?_ ?_ | intro hb)
                    · have g13 := eq_false h13
                      by_cases h15 : t.kind = 15
                      · have e1 : arS t = 1 := by simp [arS, h15]
                        refine Run ((ai (ai @eTm_eta @eTy_eta) (ai @h15 @e1))) ?_; with_reducible repeat' (first | exact True.intro | refine Lf.mk ?_ ?_ | intro hb)
                      · have g15 := eq_false h15
                        by_cases h16 : t.kind = 16
                        · have e1 : arS t = 1 := by simp [arS, h16]
                          refine Run ((ai (ai @eTm_eta @eTy_eta) (ai @h16 @e1))) ?_; with_reducible repeat' (first | exact True.intro | refine Lf.mk ?_ ?_ | intro hb)
                        · have g16 := eq_false h16
                          by_cases h9 : t.kind = 9
                          · have e1 : arS t = 2 := by simp [arS, h9]
                            refine Run ((ai (ai @eTm_eta @eTy_eta) (ai @h9 @e1))) ?_; with_reducible repeat' (first | exact True.intro | refine Lf.mk ?_ ?_ | intro hb)
                          · have g9 := eq_false h9
                            by_cases h10 : t.kind = 10
                            · have e1 : arS t = 2 := by simp [arS, h10]
                              refine Run ((ai (ai @eTm_eta @eTy_eta) (ai @h10 @e1))) ?_; with_reducible repeat' (first | exact True.intro | refine Lf.mk ?_ ?_ | intro hb)
                            · have g10 := eq_false h10
                              by_cases h14 : t.kind = 14
                              · have e1 : arS t = 2 := by simp [arS, h14]
                                refine Run ((ai (ai @eTm_eta @eTy_eta) (ai @h14 @e1))) ?_; with_reducible repeat' (first | exact True.intro | refine Lf.mk ?_ ?_ | intro hb)
                              · have g14 := eq_false h14
                                by_cases h11 : t.kind = 11
                                · have e1 : arS t = 3 := by simp [arS, h11]
                                  refine Run ((ai (ai @eTm_eta @eTy_eta) (ai @h11 @e1))) ?_; with_reducible repeat' (first | exact True.intro | refine Lf.mk ?_ ?_ | intro hb)
                                · have g11 := eq_false h11
                                  have e1 : arS t = -1 := by simp [arS, g1, g2, g3, g7, g12, g4, g5, g6, g8, g13, g15, g16, g9, g10, g14, g11]
                                  refine Run ((ai (ai (ai (ai @eTm_eta @eTy_eta) (ai @g1 @g2)) (ai (ai @g3 @g7) (ai @g12 (ai @g4 @g5)))) (ai (ai (ai @g6 @g8) (ai @g13 (ai @g15 @g16))) (ai (ai @g9 @g10) (ai @g14 (ai @g11 @e1)))))) ?_; with_reducible repeat' (first | exact True.intro | refine Lf.mk ?_ ?_ | intro hb)

end Go.VC.T
/- Terms of normal queries: the reference. -/
namespace Go.VC
open Go
theorem BsT_swap {f : Bool} {a : Tm} (h : f = true → ¬ a.kind = 1) : BsT f a ↔ BsT false a := by
  rw [BsT_eta, BsT_eta]
  constructor
  · rintro (⟨h1, h2⟩ | h1)
    · exact absurd h1 (h h2)
    · exact .inr h1
  · rintro (⟨_, h2⟩ | h1)
    · cases h2
    · exact .inr h1
theorem BsT_one {a : Tm} (h : a.kind = 1) : BsT true a := by rw [BsT_eta]; exact .inl ⟨h, rfl⟩
end Go.VC
namespace Go.VC.T
open Go Go.VC Go.Proofs Go.VC.F
def fc66A95 := (ai (ai (ai (ai sz3 (ai ag3 zv3)) (ai (ai un3 sz4) (ai ag4 zv4))) (ai (ai un4 (ai sz44 ag44)) (ai (ai zv44 sb44) (ai un44 el44)))) (ai (ai (ai ap44 (ai sz46 ag46)) (ai (ai zv46 fl46_0) (ai fl46_1 fl46_2))) (ai (ai (ai fl46_3 fl46_4) (ai fl46_5 pl46)) (ai (ai okf66 sz9) (ai sz43 sz25)))))
theorem base_loop (t : Tm) (h : okTm (2^20) t) (hF : TmF t) (H : ∀ u ∈ t.args, FnP Tryz.prog 66 [agT (eTm u)] (bT (decide (BsT false u)))) : FnS Tryz.prog 66 [] [agT (eTm t)] [] (bT (decide (BsT false t))) := by
  refine FnS.go [0, 1, 2, 3, 16, 33, 38, 62, 69] [] Tryz.func66 rfl (fun kt kz => ?_)
  have fcx := fc66A95
  simp only [Tryz.f66]
  have ho := okTm_iff.1 h
  have hln := ho.2.2.2.2.2.1
  have hFa := ((TmF_eta t).1 hF).2
  have hno : ¬ BsT false t → decide (BsT false t) = false := decide_eq_false
  by_cases k13 : t.kind = 13
  · have g13 := eq_true k13
    have e := hno fun h => by rw [BsT_eta] at h; rcases h with h | h; cases h.2; exact h.2.1 k13
    refine Run ((ai (ai @eTm_eta @eTy_eta) (ai @g13 @e))) ?_; with_reducible repeat' (first | exact True.intro | refine Lf.mk ?_ ?_ | intro hb)
  · have g13 := eq_false k13
    by_cases k14 : t.kind = 14
    · have g14 := eq_true k14
      have e := hno fun h => by rw [BsT_eta] at h; rcases h with h | h; cases h.2; exact h.2.2.1 k14
      refine Run ((ai (ai @eTm_eta @eTy_eta) (ai @g13 (ai @g14 @e)))) ?_; with_reducible repeat' (first | exact True.intro | refine Lf.mk ?_ ?_ | intro hb)
    · have g14 := eq_false k14
      by_cases k1 : t.kind = 1
      · have g1 := eq_true k1
        have e := hno fun h => by rw [BsT_eta] at h; rcases h with h | h; cases h.2; exact h.1 k1
        refine Run ((ai (ai @eTm_eta (ai @eTy_eta @g13)) (ai @g14 (ai @g1 @e)))) ?_; with_reducible repeat' (first | exact True.intro | refine Lf.mk ?_ ?_ | intro hb)
      · have g1 := eq_false k1
        have hiff : (t.kind = 10 → ∃ h : 0 < t.args.length, t.args[0].kind = 12) → (BsT false t ↔ ∀ a ∈ t.args, BsT (decide (t.kind = 6)) a) := fun h10 => by
          rw [BsT_eta]
          exact ⟨fun h => h.elim (fun h => absurd h.1 k1) fun h => h.2.2.2.2, fun h => .inr ⟨k1, k13, k14, h10, h⟩⟩
        by_cases k10 : t.kind = 10
        · have g10 := eq_true k10
          have g6 := eq_false (show ¬ t.kind = 6 by omega)
          have e6 : decide (t.kind = 6) = false := decide_eq_false (by omega)
          by_cases h0 : 0 < t.args.length
          · have hz0 : ((t.args.length : Int) = 0) = False := eq_false (by omega)
            by_cases k12 : t.args[0].kind = 12
            · have g12 := eq_true k12
              have hi := hiff fun _ => ⟨h0, k12⟩
              rw [e6] at hi
              refine Run ((ai (ai (ai @eTm_eta @eTy_eta) (ai @g13 @g14)) (ai (ai @g1 @g10) (ai @h0 (ai @hz0 @g12))))) ?_; with_reducible repeat' (first | exact True.intro | refine Lf.mk ?_ ?_ | intro hb)
              refine Trn (α := Nat) [2, 3, 34, 35, 36, 37, 38, 39, 40, 41, 42, 43, 44, 45, 46, 47, 48, 49, 50, 51, 52, 53, 54, 55, 56, 57, 58, 59, 60, 61, 62, 63, 64, 65, 66, 67, 68, 69] (fun i => [(3, iT i)]) (fun i => [(2, .box 46 ((eTm t).map .im))]) (fun i => i ≤ t.args.length ∧ ∀ a ∈ t.args.take i, BsT false a) (fun i => t.args.length - i) (0) (⟨Nat.zero_le _, fun s hs => by simp at hs⟩) ((ai @eTm_eta @eTy_eta)) ?_; intro lx hI; obtain i := lx; (try simp only [List.nil_append, List.cons_append] at hI ⊢)
              by_cases hlt : lx < t.args.length
              · refine Run ((ai (ai @eTm_eta @eTy_eta) (ai @hlt @g6))) ?_; with_reducible repeat' (first | exact True.intro | refine Lf.mk ?_ ?_ | intro hb)
                refine Cal ((ai @eTm_eta @eTy_eta)) (H _ (List.getElem_mem hlt)) ?_
                by_cases hf : BsT false t.args[lx]
                · have gf := eq_true hf
                  refine Run ((ai @eTm_eta (ai @eTy_eta @gf))) ?_; with_reducible repeat' (first | exact True.intro | refine Lf.mk ?_ ?_ | intro hb)
                  exact Nxt ((ai @eTm_eta @eTy_eta)) (lx + 1) (⟨by omega, ball_take hlt hI.2 hf⟩) (by first | omega | (simp; omega))
                · have gf := eq_false hf
                  have e := hno fun h => hf (hi.1 h _ (List.getElem_mem hlt))
                  refine Run ((ai (ai @eTm_eta @eTy_eta) (ai @gf @e))) ?_; with_reducible repeat' (first | exact True.intro | refine Lf.mk ?_ ?_ | intro hb)
              · have e : decide (BsT false t) = true := decide_eq_true (hi.2 (ball_end (by omega) hI.2))
                refine Run ((ai (ai @eTm_eta @eTy_eta) (ai @hlt @e))) ?_; with_reducible repeat' (first | exact True.intro | refine Lf.mk ?_ ?_ | intro hb)
            · have g12 := eq_false k12
              have e := hno fun h => by rw [BsT_eta] at h; rcases h with h | h; exact k1 h.1; obtain ⟨_, h⟩ := h.2.2.2.1 k10; exact k12 h
              refine Run ((ai (ai (ai @eTm_eta @eTy_eta) (ai @g13 (ai @g14 @g1))) (ai (ai @g10 @h0) (ai @hz0 (ai @g12 @e))))) ?_; with_reducible repeat' (first | exact True.intro | refine Lf.mk ?_ ?_ | intro hb)
          · have hz0 : ((t.args.length : Int) = 0) = True := eq_true (by omega)
            have e := hno fun h => by rw [BsT_eta] at h; rcases h with h | h; exact k1 h.1; obtain ⟨h, _⟩ := h.2.2.2.1 k10; exact h0 h
            refine Run ((ai (ai (ai @eTm_eta @eTy_eta) (ai @g13 @g14)) (ai (ai @g1 @g10) (ai @hz0 @e)))) ?_; with_reducible repeat' (first | exact True.intro | refine Lf.mk ?_ ?_ | intro hb)
        · have g10 := eq_false k10
          have hi := hiff fun h => absurd h k10
          refine Run ((ai (ai @eTm_eta (ai @eTy_eta @g13)) (ai @g14 (ai @g1 @g10)))) ?_; with_reducible repeat' (first | exact True.intro | refine Lf.mk ?_ ?_ | intro hb)
          refine Trn (α := Nat) [2, 3, 34, 35, 36, 37, 38, 39, 40, 41, 42, 43, 44, 45, 46, 47, 48, 49, 50, 51, 52, 53, 54, 55, 56, 57, 58, 59, 60, 61, 62, 63, 64, 65, 66, 67, 68, 69] (fun i => [(3, iT i)]) (fun i => [(2, .box 46 ((eTm t).map .im))]) (fun i => i ≤ t.args.length ∧ ∀ a ∈ t.args.take i, BsT (decide (t.kind = 6)) a) (fun i => t.args.length - i) (0) (⟨Nat.zero_le _, fun s hs => by simp at hs⟩) ((ai @eTm_eta @eTy_eta)) ?_; intro lx hI; obtain i := lx; (try simp only [List.nil_append, List.cons_append] at hI ⊢)
          by_cases hlt : lx < t.args.length
          · by_cases k6 : t.kind = 6
            · have g6 := eq_true k6
              have e6 : decide (t.kind = 6) = true := decide_eq_true k6
              by_cases ka : t.args[lx].kind = 1
              · have ga := eq_true ka
                have hz0 : ((t.args[lx].args.length : Int) = 0) = True := eq_true (by have := nd_leaf ((TmF_eta _).1 (hFa _ (List.getElem_mem hlt))).1 ka; omega)
                refine Run ((ai (ai @eTm_eta (ai @eTy_eta @hlt)) (ai @g6 (ai @ga @hz0)))) ?_; with_reducible repeat' (first | exact True.intro | refine Lf.mk ?_ ?_ | intro hb)
                have hX : ∀ a ∈ t.args.take (lx + 1), BsT (decide (t.kind = 6)) a := ball_take hlt hI.2 (by rw [e6]; exact BsT_one ka)
                rw [e6] at hX
                exact Nxt ((ai @eTm_eta @eTy_eta)) (lx + 1) (⟨by omega, hX⟩) (by first | omega | (simp; omega))
              · have ga := eq_false ka
                have hsw := BsT_swap (f := decide (t.kind = 6)) (a := t.args[lx]) fun _ => ka
                refine Run ((ai (ai @eTm_eta @eTy_eta) (ai @hlt (ai @g6 @ga)))) ?_; with_reducible repeat' (first | exact True.intro | refine Lf.mk ?_ ?_ | intro hb)
                refine Cal ((ai @eTm_eta @eTy_eta)) (H _ (List.getElem_mem hlt)) ?_
                by_cases hf : BsT false t.args[lx]
                · have gf := eq_true hf
                  refine Run ((ai @eTm_eta (ai @eTy_eta @gf))) ?_; with_reducible repeat' (first | exact True.intro | refine Lf.mk ?_ ?_ | intro hb)
                  have hX : ∀ a ∈ t.args.take (lx + 1), BsT (decide (t.kind = 6)) a := ball_take hlt hI.2 (hsw.2 hf)
                  rw [e6] at hX
                  exact Nxt ((ai @eTm_eta @eTy_eta)) (lx + 1) (⟨by omega, hX⟩) (by first | omega | (simp; omega))
                · have gf := eq_false hf
                  have e := hno fun h => hf (hsw.1 (hi.1 h _ (List.getElem_mem hlt)))
                  refine Run ((ai (ai @eTm_eta @eTy_eta) (ai @gf @e))) ?_; with_reducible repeat' (first | exact True.intro | refine Lf.mk ?_ ?_ | intro hb)
            · have g6 := eq_false k6
              have e6 : decide (t.kind = 6) = false := decide_eq_false k6
              have hsw := BsT_swap (f := decide (t.kind = 6)) (a := t.args[lx]) fun h => absurd (of_decide_eq_true h) k6
              refine Run ((ai (ai @eTm_eta @eTy_eta) (ai @hlt @g6))) ?_; with_reducible repeat' (first | exact True.intro | refine Lf.mk ?_ ?_ | intro hb)
              refine Cal ((ai @eTm_eta @eTy_eta)) (H _ (List.getElem_mem hlt)) ?_
              by_cases hf : BsT false t.args[lx]
              · have gf := eq_true hf
                refine Run ((ai @eTm_eta (ai @eTy_eta @gf))) ?_; with_reducible repeat' (first | exact True.intro | refine Lf.mk ?_ ?_ | intro hb)
                have hX : ∀ a ∈ t.args.take (lx + 1), BsT (decide (t.kind = 6)) a := ball_take hlt hI.2 (hsw.2 hf)
                rw [e6] at hX
                exact Nxt ((ai @eTm_eta @eTy_eta)) (lx + 1) (⟨by omega, hX⟩) (by first | omega | (simp; omega))
              · have gf := eq_false hf
                have e := hno fun h => hf (hsw.1 (hi.1 h _ (List.getElem_mem hlt)))
                refine Run ((ai (ai @eTm_eta @eTy_eta) (ai @gf @e))) ?_; with_reducible repeat' (first | exact True.intro | refine Lf.mk ?_ ?_ | intro hb)
          · have e : decide (BsT false t) = true := decide_eq_true (hi.2 (ball_end (by omega) hI.2))
            refine Run ((ai (ai @eTm_eta @eTy_eta) (ai @hlt @e))) ?_; with_reducible repeat' (first | exact True.intro | refine Lf.mk ?_ ?_ | intro hb)

theorem specBase_ok (t : Tm) (h : okTm (2^20) t) (hF : TmF t) : FnP Tryz.prog 66 [agT (eTm t)] (bT (decide (BsT false t))) :=
  base_loop t h hF fun u hu => specBase_ok u ((okTm_iff.1 h).2.2.2.2.2.2 u hu) (((TmF_eta t).1 hF).2 u hu)
termination_by SizeOf.sizeOf t
decreasing_by exact Tm.mem hu
end Go.VC.T
