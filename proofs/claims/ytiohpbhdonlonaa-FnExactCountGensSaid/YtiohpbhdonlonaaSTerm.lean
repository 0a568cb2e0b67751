/- Data (Term): how they are measured, copied and compared. -/
import Derived.Test.YtiohpbhdonlonaaSType
namespace Go.VC.T
open Go Go.VC Go.Proofs Go.VC.F
set_option linter.unusedSimpArgs false
set_option linter.unusedVariables false
set_option linter.defProp false
set_option maxRecDepth 100000
set_option maxHeartbeats 2000000
def fc121 := (And.intro (And.intro (And.intro (And.intro (And.intro sz3 ag3) (And.intro zv3 (And.intro un3 sz4))) (And.intro (And.intro ag4 (And.intro zv4 un4)) (And.intro sz9 (And.intro ag9 zv9)))) (And.intro (And.intro (And.intro un9 (And.intro sz38 ag38)) (And.intro zv38 (And.intro sb38 un38))) (And.intro (And.intro el38 (And.intro ap38 sz64)) (And.intro ag64 (And.intro zv64 fl64_0))))) (And.intro (And.intro (And.intro (And.intro fl64_1 (And.intro fl64_2 pl64)) (And.intro sz65 (And.intro ag65 zv65))) (And.intro (And.intro sb65 (And.intro un65 el65)) (And.intro ap65 (And.intro sz67 ag67)))) (And.intro (And.intro (And.intro zv67 (And.intro fl67_0 fl67_1)) (And.intro fl67_2 (And.intro fl67_3 fl67_4))) (And.intro (And.intro fl67_5 (And.intro pl67 okf33)) (And.intro okf164 (And.intro okf209 sz62))))))
theorem szTerm_of (t : Tm) (h : okTm (2^48) t) (H0 : ∀ left : Int, 0 ≤ left ∧ left ≤ 2^20 → FnP Try.prog 164 [slT eTm t.args, iT left] (iT (szR (zL zTm t.args) left))) (left : Int) (hl : 0 ≤ left ∧ left ≤ 2^20) : FnS Try.prog 121 [] [agT (eTm t), iT left] [] (iT (szR (zTm t) left)) := by
  refine FnS.go [0, 1, 2, 4, 11, 17, 23, 29] [] Try.func121 rfl (fun kt kz => ?_)
  have fcx := fc121
  simp only [Try.f121]
  have ho := okTm_iff.1 h
  have hs1 : t.name.size = zS t.name := rfl
  have hw1 : zS t.name ≤ 2^48 := ho.2.1
  refine Run ((And.intro (And.intro @eTm_eta @eTy_eta) (And.intro @hs1 @szR_add))) ?_; repeat' (first | (with_reducible exact True.intro) | (with_reducible refine Lf.mk ?_ ?_) | (with_reducible intro hb))
  · congr 4; have s2 := szR_spec (zTm t) left; rw [zTm_eta] at s2 ⊢; omega
  · skip
    have e : left - (zS t.name : Int) = szR (zS t.name) left := by have s3 := szR_spec (zS t.name) left; omega
    rw [e] at hb ⊢
    refine Cal ((And.intro (And.intro @eTm_eta @eTy_eta) (And.intro @hs1 @szR_add))) (szType_ok _ ho.2.2.2.1 _ ⟨(by assumption), by have := szR_le (n := zS t.name) hl.1; omega⟩) ?_
    have hz := szR_le (n := zS t.name + zTy t.ty) hl.1
    refine Run ((And.intro (And.intro @eTm_eta @eTy_eta) (And.intro @hs1 @szR_add))) ?_; repeat' (first | (with_reducible exact True.intro) | (with_reducible refine Lf.mk ?_ ?_) | (with_reducible intro hb))
    · congr 4; have s1 := szR_spec (zS t.name + zTy t.ty) left; have s2 := szR_spec (zTm t) left; rw [zTm_eta] at s2 ⊢; omega
    · skip
      refine Cal ((And.intro (And.intro @eTm_eta @eTy_eta) (And.intro @hs1 @szR_add))) (szStringS_ok _ ho.2.2.2.2.1 _ ⟨(by assumption), by have := szR_le (n := zS t.name + zTy t.ty) hl.1; omega⟩) ?_
      have hz := szR_le (n := zS t.name + zTy t.ty + zSL t.labels) hl.1
      refine Run ((And.intro (And.intro @eTm_eta @eTy_eta) (And.intro @hs1 @szR_add))) ?_; repeat' (first | (with_reducible exact True.intro) | (with_reducible refine Lf.mk ?_ ?_) | (with_reducible intro hb))
      · congr 4; have s1 := szR_spec (zS t.name + zTy t.ty + zSL t.labels) left; have s2 := szR_spec (zTm t) left; rw [zTm_eta] at s2 ⊢; omega
      · skip
        refine Cal ((And.intro (And.intro @eTm_eta @eTy_eta) (And.intro @hs1 @szR_add))) (H0 _ ⟨(by assumption), by have := szR_le (n := zS t.name + zTy t.ty + zSL t.labels) hl.1; omega⟩) ?_
        have hz := szR_le (n := zS t.name + zTy t.ty + zSL t.labels + zL zTm t.args) hl.1
        refine Run ((And.intro (And.intro @eTm_eta @eTy_eta) (And.intro @hs1 @szR_add))) ?_; repeat' (first | (with_reducible exact True.intro) | (with_reducible refine Lf.mk ?_ ?_) | (with_reducible intro hb))
        · congr 4; have s1 := szR_spec (zS t.name + zTy t.ty + zSL t.labels + zL zTm t.args) left; have s2 := szR_spec (zTm t) left; rw [zTm_eta] at s2 ⊢; omega
        · skip
          rw [zTm_eta]
def fc164 := (And.intro (And.intro (And.intro (And.intro sz3 (And.intro ag3 zv3)) (And.intro (And.intro un3 sz4) (And.intro ag4 zv4))) (And.intro (And.intro un4 (And.intro sz65 ag65)) (And.intro (And.intro zv65 sb65) (And.intro un65 el65)))) (And.intro (And.intro (And.intro ap65 (And.intro sz67 ag67)) (And.intro (And.intro zv67 fl67_0) (And.intro fl67_1 fl67_2))) (And.intro (And.intro (And.intro fl67_3 fl67_4) (And.intro fl67_5 pl67)) (And.intro (And.intro okf121 sz9) (And.intro sz64 sz38)))))
theorem szTermS_of (xs : List Tm) (hx : okLs (2^48) okTm xs) (H : ∀ t ∈ xs, ∀ left : Int, 0 ≤ left ∧ left ≤ 2^20 → FnP Try.prog 121 [agT (eTm t), iT left] (iT (szR (zTm t) left))) (left : Int) (hl : 0 ≤ left ∧ left ≤ 2^20) : FnS Try.prog 164 [] [slT eTm xs, iT left] [] (iT (szR (zL zTm xs) left)) := by
  refine FnS.go [0, 1, 4, 5, 11, 15, 25] [] Try.func164 rfl (fun kt kz => ?_)
  have fcx := fc164
  simp only [Try.f164]
  have hx1 := hx.1
  refine Run (cast_succ) ?_; repeat' (first | (with_reducible exact True.intro) | (with_reducible refine Lf.mk ?_ ?_) | (with_reducible intro hb))
  · simp only [szR_nil hb zL_len]
  · rw [szR_sub hb]
    have hb2 := szR_sub hb ▸ hb
    refine Trn (α := Nat) [1, 4, 5, 12, 13, 14, 15, 16, 17, 18, 19, 20, 21, 22, 23, 24, 25] (fun i => [(5, iT i), (1, iT (szR (zT zTm xs i) left))]) (fun i => []) (fun i => i ≤ xs.length ∧ 0 ≤ szR (zT zTm xs i) left) (fun i => xs.length - i) (0) (⟨Nat.zero_le _, by rw [zT_zero]; exact hb2⟩) ((zT_zero (z := zTm) (l := xs))) ?_; intro lx hI; obtain i := lx; (try simp only [List.nil_append, List.cons_append] at hI ⊢)
    have hz := szR_le (n := zT zTm xs lx) hl.1
    by_cases hlt : lx < xs.length
    · have e : szR (zTm xs[lx]) (szR (zT zTm xs lx) left) = szR (zT zTm xs (lx + 1)) left := by rw [zT_succ hlt, ← szR_add]
      refine Run ((And.intro @eTm_eta @eTy_eta)) ?_; repeat' (first | (with_reducible exact True.intro) | (with_reducible refine Lf.mk ?_ ?_) | (with_reducible intro hb))
      · refine Cal ((And.intro @eTm_eta @eTy_eta)) (H _ (List.getElem_mem hlt) _ ⟨hI.2, by omega⟩) ?_
        refine Run (cast_succ) ?_; repeat' (first | (with_reducible exact True.intro) | (with_reducible refine Lf.mk ?_ ?_) | (with_reducible intro hb))
        · rw [e] at hb
          rw [szR_neg hb zT_le]
        · rw [e] at hb
          exact Nxt (@e) (lx + 1) (⟨by omega, hb⟩) (by first | omega | (simp; omega))
      · omega
    · refine Run (cast_succ) ?_; repeat' (first | (with_reducible exact True.intro) | (with_reducible refine Lf.mk ?_ ?_) | (with_reducible intro hb))
      · omega
      · rw [zT_all (by omega)]

theorem szTerm_ok (t : Tm) (h : okTm (2^48) t) (left : Int) (hl : 0 ≤ left ∧ left ≤ 2^20) : FnP Try.prog 121 [agT (eTm t), iT left] (iT (szR (zTm t) left)) := szTerm_of t h (fun left hl => szTermS_of t.args ((okTm_iff.1 h).2.2.2.2.2) (fun u hu left hl => szTerm_ok u (((okTm_iff.1 h).2.2.2.2.2).2 u hu) left hl) left hl) left hl
termination_by SizeOf.sizeOf t
decreasing_by all_goals first | exact Ty.mem hu | exact Val.mem hu | exact Tm.mem hu | exact Pl.mem hu | exact Hd.memP hu | exact Hd.memQ hu | exact Cmp.memH _
theorem szTermS_ok (xs : List Tm) (h : okLs (2^48) okTm xs) (left : Int) (hl : 0 ≤ left ∧ left ≤ 2^20) : FnP Try.prog 164 [slT eTm xs, iT left] (iT (szR (zL zTm xs) left)) := szTermS_of xs h (fun t ht left hl => szTerm_ok t (h.2 t ht) left hl) left hl
def fc124 := (And.intro (And.intro (And.intro (And.intro (And.intro (And.intro sz3 ag3) (And.intro zv3 un3)) (And.intro (And.intro sz9 ag9) (And.intro zv9 un9))) (And.intro (And.intro (And.intro sz38 ag38) (And.intro zv38 sb38)) (And.intro (And.intro un38 el38) (And.intro ap38 (And.intro sz64 ag64))))) (And.intro (And.intro (And.intro (And.intro zv64 fl64_0) (And.intro fl64_1 fl64_2)) (And.intro (And.intro pl64 sz65) (And.intro ag65 zv65))) (And.intro (And.intro (And.intro sb65 un65) (And.intro el65 ap65)) (And.intro (And.intro sz67 ag67) (And.intro zv67 (And.intro fl67_0 fl67_1)))))) (And.intro (And.intro (And.intro (And.intro (And.intro fl67_2 fl67_3) (And.intro fl67_4 fl67_5)) (And.intro (And.intro pl67 sz74) (And.intro ag74 zv74))) (And.intro (And.intro (And.intro fl74_0 fl74_1) (And.intro fl74_2 pl74)) (And.intro (And.intro sz75 ag75) (And.intro zv75 (And.intro sb75 un75))))) (And.intro (And.intro (And.intro (And.intro el75 ap75) (And.intro sz77 ag77)) (And.intro (And.intro zv77 fl77_0) (And.intro fl77_1 fl77_2))) (And.intro (And.intro (And.intro fl77_3 fl77_4) (And.intro fl77_5 pl77)) (And.intro (And.intro okf36 okf169) (And.intro okf211 (And.intro sz62 sz72)))))))
theorem toTerm_w (t : Tm) (h : okTm (2^20) t) (H0 : ∀ q : Nat, FnS Try.prog 169 [] [slT eTm t.args] [(q, .row t.args.length (t.args.flatMap eTm))] (.c (.os q t.args.length))) : FnS Try.prog 124 [] [agT (eTm t)] [(1000, .row t.ty.labels.length (t.ty.labels.flatMap eS)), (1002, .row t.ty.args.length (t.ty.args.flatMap eTy)), (1004, .row t.labels.length (t.labels.flatMap eS)), (1006, .row t.args.length (t.args.flatMap eTm))] (.ag [.im (.sc (.int .i64 t.kind)), .im (.sc (.string t.name)), .im (.sc (.int .i64 t.n)), .im (.sc (.int .i64 t.ty.kind)), .os 1000 t.ty.labels.length, .os 1002 t.ty.args.length, .os 1004 t.labels.length, .os 1006 t.args.length]) := by
  refine FnS.go [0, 1, 2, 3] [] Try.func124 rfl (fun kt kz => ?_)
  have fcx := fc124
  simp only [Try.f124]
  have ho := okTm_iff.1 h
  refine Run ((And.intro @eTm_eta @eTy_eta)) ?_; repeat' (first | (with_reducible exact True.intro) | (with_reducible refine Lf.mk ?_ ?_) | (with_reducible intro hb))
  refine CalI ((And.intro @eTm_eta @eTy_eta)) (toType_o _ ho.2.2.2.1 1000 1002 (by decide)) ?_
  refine Run ((And.intro @eTm_eta @eTy_eta)) ?_; repeat' (first | (with_reducible exact True.intro) | (with_reducible refine Lf.mk ?_ ?_) | (with_reducible intro hb))
  refine CalI ((And.intro @eTm_eta @eTy_eta)) (toStringS_o _ ho.2.2.2.2.1 1004) ?_
  refine Run ((And.intro @eTm_eta @eTy_eta)) ?_; repeat' (first | (with_reducible exact True.intro) | (with_reducible refine Lf.mk ?_ ?_) | (with_reducible intro hb))
  refine CalI ((And.intro @eTm_eta @eTy_eta)) (H0 1006) ?_
  refine Run ((And.intro @eTm_eta @eTy_eta)) ?_; repeat' (first | (with_reducible exact True.intro) | (with_reducible refine Lf.mk ?_ ?_) | (with_reducible intro hb))

theorem toTerm_q (t : Tm) (h : okTm (2^20) t) (H0 : ∀ q : Nat, FnS Try.prog 169 [] [slT eTm t.args] [(q, .row t.args.length (t.args.flatMap eTm))] (.c (.os q t.args.length))) : ∀ q0 q1 q2 q3 : Nat, [q0, q1, q2, q3].Nodup → FnS Try.prog 124 [] [agT (eTm t)] [(q0, .row t.ty.labels.length (t.ty.labels.flatMap eS)), (q1, .row t.ty.args.length (t.ty.args.flatMap eTy)), (q2, .row t.labels.length (t.labels.flatMap eS)), (q3, .row t.args.length (t.args.flatMap eTm))] (.ag [.im (.sc (.int .i64 t.kind)), .im (.sc (.string t.name)), .im (.sc (.int .i64 t.n)), .im (.sc (.int .i64 t.ty.kind)), .os q0 t.ty.labels.length, .os q1 t.ty.args.length, .os q2 t.labels.length, .os q3 t.args.length]) := by
  intro q0 q1 q2 q3 hq
  obtain ⟨p, hp⟩ := pml [1000, 1002, 1004, 1006] [q0, q1, q2, q3] (by decide) hq rfl
  simp only [List.map_cons, List.map_nil, List.cons.injEq, and_true] at hp
  refine ((toTerm_w t h H0).rows.pm p).as ?_ ?_ <;> simp [rowS, rowO, renS, Ob.ren, TV.ren, renL, Cell.ren, hp]
def fc169 := (And.intro (And.intro (And.intro (And.intro (And.intro sz3 ag3) (And.intro zv3 (And.intro un3 sz4))) (And.intro (And.intro ag4 (And.intro zv4 un4)) (And.intro sz65 (And.intro ag65 zv65)))) (And.intro (And.intro (And.intro sb65 (And.intro un65 el65)) (And.intro ap65 (And.intro sz67 ag67))) (And.intro (And.intro zv67 (And.intro fl67_0 fl67_1)) (And.intro fl67_2 (And.intro fl67_3 fl67_4))))) (And.intro (And.intro (And.intro (And.intro fl67_5 (And.intro pl67 sz75)) (And.intro ag75 (And.intro zv75 sb75))) (And.intro (And.intro un75 (And.intro el75 ap75)) (And.intro sz77 (And.intro ag77 zv77)))) (And.intro (And.intro (And.intro fl77_0 (And.intro fl77_1 fl77_2)) (And.intro fl77_3 (And.intro fl77_4 fl77_5))) (And.intro (And.intro pl77 (And.intro okf124 sz9)) (And.intro sz64 (And.intro sz38 sz74))))))
theorem toTermS_w (xs : List Tm) (hx : okLs (2^20) okTm xs) (H : ∀ t ∈ xs, ∀ q0 q1 q2 q3 : Nat, [q0, q1, q2, q3].Nodup → FnS Try.prog 124 [] [agT (eTm t)] [(q0, .row t.ty.labels.length (t.ty.labels.flatMap eS)), (q1, .row t.ty.args.length (t.ty.args.flatMap eTy)), (q2, .row t.labels.length (t.labels.flatMap eS)), (q3, .row t.args.length (t.args.flatMap eTm))] (.ag [.im (.sc (.int .i64 t.kind)), .im (.sc (.string t.name)), .im (.sc (.int .i64 t.n)), .im (.sc (.int .i64 t.ty.kind)), .os q0 t.ty.labels.length, .os q1 t.ty.args.length, .os q2 t.labels.length, .os q3 t.args.length])) : FnS Try.prog 169 [] [slT eTm xs] [(14, .vec 77 8 xs.length (xs.flatMap eTm) true)] (.c (.os 14 xs.length)) := by
  refine FnS.go [0, 2, 3, 4, 11] [] Try.func169 rfl (fun kt kz => ?_)
  have fcx := fc169
  simp only [Try.f169]
  have hx1 := hx.1
  refine Run (cast_succ) ?_; repeat' (first | (with_reducible exact True.intro) | (with_reducible refine Lf.mk ?_ ?_) | (with_reducible intro hb))
  refine Trn (α := Nat) [4, 8, 9, 10, 11, 12, 13, 14, 15, 16, 17, 18, 19, 20, 21] (fun i => [(4, iT i), (3, .c (.os 14 xs.length))]) (fun i => [(14, .vec 77 8 xs.length (filled eTm [.sc (.int .i64 0), .sc (.string ⟨#[]⟩), .sc (.int .i64 0), .sc (.int .i64 0), .sl 0 [], .sl 0 [], .sl 0 [], .sl 0 []] xs i) true)]) (fun i => i ≤ xs.length) (fun i => xs.length - i) (0) (Nat.zero_le _) (cast_succ) ?_; intro lx hI; obtain i := lx; (try simp only [List.nil_append, List.cons_append] at hI ⊢)
  refine Run ((And.intro @eTm_eta @eTy_eta)) ?_; repeat' (first | (with_reducible exact True.intro) | (with_reducible refine Lf.mk ?_ ?_) | (with_reducible intro hb))
  · refine CalI ((And.intro @eTm_eta @eTy_eta)) (H _ (List.getElem_mem hb) 1000 1002 1004 1006 (by decide)) ?_
    refine Run ((And.intro @eTm_eta @eTy_eta)) ?_; repeat' (first | (with_reducible exact True.intro) | (with_reducible refine Lf.mk ?_ ?_) | (with_reducible intro hb))
    have hs := filled_step' (E := eTm) (zs := [.sc (.int .i64 0), .sc (.string ⟨#[]⟩), .sc (.int .i64 0), .sc (.int .i64 0), .sl 0 [], .sl 0 [], .sl 0 [], .sl 0 []]) hb
    simp only [eTm_eta, eTy_eta, setL_st, stL_one, slI] at hs
    exact Nxt (@hs) (lx + 1) (by omega) (by first | omega | (simp; omega))

theorem toTermS_q (xs : List Tm) (hx : okLs (2^20) okTm xs) (H : ∀ t ∈ xs, ∀ q0 q1 q2 q3 : Nat, [q0, q1, q2, q3].Nodup → FnS Try.prog 124 [] [agT (eTm t)] [(q0, .row t.ty.labels.length (t.ty.labels.flatMap eS)), (q1, .row t.ty.args.length (t.ty.args.flatMap eTy)), (q2, .row t.labels.length (t.labels.flatMap eS)), (q3, .row t.args.length (t.args.flatMap eTm))] (.ag [.im (.sc (.int .i64 t.kind)), .im (.sc (.string t.name)), .im (.sc (.int .i64 t.n)), .im (.sc (.int .i64 t.ty.kind)), .os q0 t.ty.labels.length, .os q1 t.ty.args.length, .os q2 t.labels.length, .os q3 t.args.length])) (q : Nat) : FnS Try.prog 169 [] [slT eTm xs] [(q, .row xs.length (xs.flatMap eTm))] (.c (.os q xs.length)) := by
  obtain ⟨p, hp⟩ := pm1 14 q
  refine ((toTermS_w xs hx H).rows.pm p).as ?_ ?_ <;> simp [rowS, rowO, renS, Ob.ren, TV.ren, Cell.ren, hp]

theorem toTerm_o (t : Tm) (h : okTm (2^20) t) : ∀ q0 q1 q2 q3 : Nat, [q0, q1, q2, q3].Nodup → FnS Try.prog 124 [] [agT (eTm t)] [(q0, .row t.ty.labels.length (t.ty.labels.flatMap eS)), (q1, .row t.ty.args.length (t.ty.args.flatMap eTy)), (q2, .row t.labels.length (t.labels.flatMap eS)), (q3, .row t.args.length (t.args.flatMap eTm))] (.ag [.im (.sc (.int .i64 t.kind)), .im (.sc (.string t.name)), .im (.sc (.int .i64 t.n)), .im (.sc (.int .i64 t.ty.kind)), .os q0 t.ty.labels.length, .os q1 t.ty.args.length, .os q2 t.labels.length, .os q3 t.args.length]) := toTerm_q t h (fun q => toTermS_q t.args ((okTm_iff.1 h).2.2.2.2.2) (fun u hu => toTerm_o u (((okTm_iff.1 h).2.2.2.2.2).2 u hu)) q)
termination_by SizeOf.sizeOf t
decreasing_by all_goals first | exact Ty.mem hu | exact Val.mem hu | exact Tm.mem hu | exact Pl.mem hu | exact Hd.memP hu | exact Hd.memQ hu | exact Cmp.memH _
theorem toTermS_o (xs : List Tm) (h : okLs (2^20) okTm xs) (q : Nat) : FnS Try.prog 169 [] [slT eTm xs] [(q, .row xs.length (xs.flatMap eTm))] (.c (.os q xs.length)) := toTermS_q xs h (fun t ht => toTerm_o t (h.2 t ht)) q
def fc127 := (And.intro (And.intro (And.intro (And.intro (And.intro sz3 ag3) (And.intro zv3 (And.intro un3 sz4))) (And.intro (And.intro ag4 (And.intro zv4 un4)) (And.intro sz9 (And.intro ag9 zv9)))) (And.intro (And.intro (And.intro un9 (And.intro sz38 ag38)) (And.intro zv38 (And.intro sb38 un38))) (And.intro (And.intro el38 (And.intro ap38 sz74)) (And.intro ag74 (And.intro zv74 fl74_0))))) (And.intro (And.intro (And.intro (And.intro fl74_1 (And.intro fl74_2 pl74)) (And.intro sz75 (And.intro ag75 zv75))) (And.intro (And.intro sb75 (And.intro un75 el75)) (And.intro ap75 (And.intro sz77 ag77)))) (And.intro (And.intro (And.intro zv77 (And.intro fl77_0 fl77_1)) (And.intro fl77_2 (And.intro fl77_3 fl77_4))) (And.intro (And.intro fl77_5 (And.intro pl77 okf38)) (And.intro okf172 (And.intro okf214 sz72))))))
theorem eqTerm_of (t : Tm) (h : okTm (2^20) t) (H0 : FnP Try.prog 172 [slT eTm t.args, slT eTm t.args] (bT true)) : FnS Try.prog 127 [] [agT (eTm t), agT (eTm t)] [] (bT true) := by
  refine FnS.go [0, 1, 2, 3, 4, 9, 14, 19, 25, 31, 37] [] Try.func127 rfl (fun kt kz => ?_)
  have fcx := fc127
  simp only [Try.f127]
  have ho := okTm_iff.1 h
  refine Run ((And.intro @eTm_eta @eTy_eta)) ?_; repeat' (first | (with_reducible exact True.intro) | (with_reducible refine Lf.mk ?_ ?_) | (with_reducible intro hb))
  refine Cal ((And.intro @eTm_eta @eTy_eta)) (eqType_ok _ ho.2.2.2.1) ?_
  refine Run ((And.intro @eTm_eta @eTy_eta)) ?_; repeat' (first | (with_reducible exact True.intro) | (with_reducible refine Lf.mk ?_ ?_) | (with_reducible intro hb))
  refine Cal ((And.intro @eTm_eta @eTy_eta)) (eqStringS_rf _ ho.2.2.2.2.1) ?_
  refine Run ((And.intro @eTm_eta @eTy_eta)) ?_; repeat' (first | (with_reducible exact True.intro) | (with_reducible refine Lf.mk ?_ ?_) | (with_reducible intro hb))
  refine Cal ((And.intro @eTm_eta @eTy_eta)) (H0) ?_
  refine Run ((And.intro @eTm_eta @eTy_eta)) ?_; repeat' (first | (with_reducible exact True.intro) | (with_reducible refine Lf.mk ?_ ?_) | (with_reducible intro hb))
def fc172 := (And.intro (And.intro (And.intro (And.intro sz3 (And.intro ag3 zv3)) (And.intro (And.intro un3 sz4) (And.intro ag4 zv4))) (And.intro (And.intro un4 (And.intro sz75 ag75)) (And.intro (And.intro zv75 sb75) (And.intro un75 el75)))) (And.intro (And.intro (And.intro ap75 (And.intro sz77 ag77)) (And.intro (And.intro zv77 fl77_0) (And.intro fl77_1 fl77_2))) (And.intro (And.intro (And.intro fl77_3 fl77_4) (And.intro fl77_5 pl77)) (And.intro (And.intro okf127 sz9) (And.intro sz74 sz38)))))
theorem eqTermS_of (xs : List Tm) (hx : okLs (2^20) okTm xs) (H : ∀ t ∈ xs, FnP Try.prog 127 [agT (eTm t), agT (eTm t)] (bT true)) : FnS Try.prog 172 [] [slT eTm xs, slT eTm xs] [] (bT true) := by
  refine FnS.go [0, 1, 4, 5, 10, 14, 26] [] Try.func172 rfl (fun kt kz => ?_)
  have fcx := fc172
  simp only [Try.f172]
  have hx1 := hx.1
  refine Run (cast_succ) ?_; repeat' (first | (with_reducible exact True.intro) | (with_reducible refine Lf.mk ?_ ?_) | (with_reducible intro hb))
  refine Trn (α := Nat) [4, 5, 11, 12, 13, 14, 15, 16, 17, 18, 19, 20, 21, 22, 23, 24, 25, 26] (fun i => [(5, iT i)]) (fun i => []) (fun i => i ≤ xs.length) (fun i => xs.length - i) (0) (Nat.zero_le _) (cast_succ) ?_; intro lx hI; obtain i := lx; (try simp only [List.nil_append, List.cons_append] at hI ⊢)
  refine Run ((And.intro @eTm_eta @eTy_eta)) ?_; repeat' (first | (with_reducible exact True.intro) | (with_reducible refine Lf.mk ?_ ?_) | (with_reducible intro hb))
  · refine Cal ((And.intro @eTm_eta @eTy_eta)) (H _ (List.getElem_mem hb)) ?_
    refine Run ((And.intro @eTm_eta @eTy_eta)) ?_; repeat' (first | (with_reducible exact True.intro) | (with_reducible refine Lf.mk ?_ ?_) | (with_reducible intro hb))
    exact Nxt (cast_succ) (lx + 1) (by omega) (by first | omega | (simp; omega))

theorem eqTerm_ok (t : Tm) (h : okTm (2^20) t) : FnP Try.prog 127 [agT (eTm t), agT (eTm t)] (bT true) := eqTerm_of t h (eqTermS_of t.args ((okTm_iff.1 h).2.2.2.2.2) (fun u hu => eqTerm_ok u (((okTm_iff.1 h).2.2.2.2.2).2 u hu)))
termination_by SizeOf.sizeOf t
decreasing_by all_goals first | exact Ty.mem hu | exact Val.mem hu | exact Tm.mem hu | exact Pl.mem hu | exact Hd.memP hu | exact Hd.memQ hu | exact Cmp.memH _
theorem eqTermS_ok (xs : List Tm) (h : okLs (2^20) okTm xs) : FnP Try.prog 172 [slT eTm xs, slT eTm xs] (bT true) := eqTermS_of xs h (fun t ht => eqTerm_ok t (h.2 t ht))
theorem toTerm_ok (t : Tm) (h : okTm (2^20) t) : FnP Try.prog 124 [agT (eTm t)] (agT (eTm t)) := (toTerm_o t h 1000 1002 1004 1006 (by decide)).tree (by simp -dsimp (maxSteps := 2000000) (disch := omega) only [vs, ↓Option.bind_some, ev1, ofV, scalarB, Kn, Kb, calleeOf, evLoad, ptr, evField, evFieldAddr, shift, ↓pt_at, ↓pt_at1, evExtract, evBin, evLen, evConv, cellsT, noS, Cell.has, Cell.hasN, Cell.anyN, toIV, toIV0, toIVs, ownC, srcM, Ob.own, Ob.esz, allSc, nilK, lenC, ownCell, isPtr, ptrNil, frzO, Cell.frz, Cell.keys, ↓reduceIte, reduceCtorEq, Nat.reduceEqDiff, Nat.reduceBEq, Nat.reduceBNe, Nat.reduceAdd, Nat.reduceMul, Nat.reduceSub, Nat.reduceLT, Nat.reduceLeDiff, Nat.reducePow, Int.reduceLT, Int.reduceLE, Int.reduceEq, Int.reduceNe, quietB, Nat.reduceMod, Int.reduceToNat, ne_eq, eq_self, exists_const, evBytes, byRow, byL, byStr_size, ifsz, ByteArray.size_append, Option.none_or, Option.some_or, eTm_eta, eTy_eta])
theorem toTermS_ok (xs : List Tm) (h : okLs (2^20) okTm xs) : FnP Try.prog 169 [slT eTm xs] (slT eTm xs) := (toTermS_o xs h 1000).tree (by simp -dsimp (maxSteps := 2000000) (disch := omega) only [vs, ↓Option.bind_some, ev1, ofV, scalarB, Kn, Kb, calleeOf, evLoad, ptr, evField, evFieldAddr, shift, ↓pt_at, ↓pt_at1, evExtract, evBin, evLen, evConv, cellsT, noS, Cell.has, Cell.hasN, Cell.anyN, toIV, toIV0, toIVs, ownC, srcM, Ob.own, Ob.esz, allSc, nilK, lenC, ownCell, isPtr, ptrNil, frzO, Cell.frz, Cell.keys, ↓reduceIte, reduceCtorEq, Nat.reduceEqDiff, Nat.reduceBEq, Nat.reduceBNe, Nat.reduceAdd, Nat.reduceMul, Nat.reduceSub, Nat.reduceLT, Nat.reduceLeDiff, Nat.reducePow, Int.reduceLT, Int.reduceLE, Int.reduceEq, Int.reduceNe, quietB, Nat.reduceMod, Int.reduceToNat, ne_eq, eq_self, exists_const, evBytes, byRow, byL, byStr_size, ifsz, ByteArray.size_append, Option.none_or, Option.some_or])

end Go.VC.T
