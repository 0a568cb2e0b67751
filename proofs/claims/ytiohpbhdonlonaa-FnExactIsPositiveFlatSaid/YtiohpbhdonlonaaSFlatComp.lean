/- Data (FlatComp): how they are measured, copied and compared. -/
import Derived.Test.YtiohpbhdonlonaaSTerm
import Derived.Test.YtiohpbhdonlonaaSGen
namespace Go.VC.T
open Go Go.VC Go.Proofs Go.VC.F
set_option linter.unusedSimpArgs false
set_option linter.unusedVariables false
set_option linter.defProp false
set_option maxRecDepth 100000
set_option maxHeartbeats 2000000
def fc222 := (And.intro (And.intro (And.intro (And.intro (And.intro sz3 (And.intro ag3 zv3)) (And.intro un3 (And.intro sz4 ag4))) (And.intro (And.intro zv4 (And.intro un4 sz65)) (And.intro ag65 (And.intro zv65 sb65)))) (And.intro (And.intro (And.intro un65 (And.intro el65 ap65)) (And.intro sz67 (And.intro ag67 zv67))) (And.intro (And.intro fl67_0 (And.intro fl67_1 fl67_2)) (And.intro fl67_3 (And.intro fl67_4 fl67_5))))) (And.intro (And.intro (And.intro (And.intro pl67 (And.intro sz281 ag281)) (And.intro zv281 (And.intro sb281 un281))) (And.intro (And.intro el281 (And.intro ap281 sz283)) (And.intro ag283 (And.intro zv283 fl283_0)))) (And.intro (And.intro (And.intro fl283_1 (And.intro fl283_2 fl283_3)) (And.intro fl283_4 (And.intro fl283_5 pl283))) (And.intro (And.intro okf121 (And.intro okf164 okf275)) (And.intro sz9 (And.intro sz64 sz38))))))
theorem szFlatComp_ok (t : FC) (h : okFC (2^48) t) (left : Int) (hl : 0 ≤ left ∧ left ≤ 2^20) : FnS Try.prog 222 [] [agT (eFC t), iT left] [] (iT (szR (zFC t) left)) := by
  refine FnS.go [0, 1, 2, 4, 10, 16, 22] [] Try.func222 rfl (fun kt kz => ?_)
  have fcx := fc222
  simp only [Try.f222]
  have ho := okFC_iff.1 h
  refine Run ((And.intro (And.intro @eFC_eta @eTm_eta) (And.intro @eTy_eta @szR_add))) ?_; repeat' (first | (with_reducible exact True.intro) | (with_reducible refine Lf.mk ?_ ?_) | (with_reducible intro hb))
  refine Cal ((And.intro (And.intro @eFC_eta @eTm_eta) (And.intro @eTy_eta @szR_add))) (szGenS_ok _ ho.2.2.2.1 _ hl) ?_
  have hz := szR_le (n := zL zGn t.gens) hl.1
  refine Run ((And.intro (And.intro @eFC_eta @eTm_eta) (And.intro @eTy_eta @szR_add))) ?_; repeat' (first | (with_reducible exact True.intro) | (with_reducible refine Lf.mk ?_ ?_) | (with_reducible intro hb))
  · congr 4; have s1 := szR_spec (zL zGn t.gens) left; have s2 := szR_spec (zFC t) left; rw [zFC_eta] at s2 ⊢; omega
  · skip
    refine Cal ((And.intro (And.intro @eFC_eta @eTm_eta) (And.intro @eTy_eta @szR_add))) (szTerm_ok _ ho.2.2.2.2.1 _ ⟨(by assumption), by have := szR_le (n := zL zGn t.gens) hl.1; omega⟩) ?_
    have hz := szR_le (n := zL zGn t.gens + zTm t.wh) hl.1
    refine Run ((And.intro (And.intro @eFC_eta @eTm_eta) (And.intro @eTy_eta @szR_add))) ?_; repeat' (first | (with_reducible exact True.intro) | (with_reducible refine Lf.mk ?_ ?_) | (with_reducible intro hb))
    · congr 4; have s1 := szR_spec (zL zGn t.gens + zTm t.wh) left; have s2 := szR_spec (zFC t) left; rw [zFC_eta] at s2 ⊢; omega
    · skip
      refine Cal ((And.intro (And.intro @eFC_eta @eTm_eta) (And.intro @eTy_eta @szR_add))) (szTermS_ok _ ho.2.2.2.2.2 _ ⟨(by assumption), by have := szR_le (n := zL zGn t.gens + zTm t.wh) hl.1; omega⟩) ?_
      have hz := szR_le (n := zL zGn t.gens + zTm t.wh + zL zTm t.cols) hl.1
      refine Run ((And.intro (And.intro @eFC_eta @eTm_eta) (And.intro @eTy_eta @szR_add))) ?_; repeat' (first | (with_reducible exact True.intro) | (with_reducible refine Lf.mk ?_ ?_) | (with_reducible intro hb))
      · congr 4; have s1 := szR_spec (zL zGn t.gens + zTm t.wh + zL zTm t.cols) left; have s2 := szR_spec (zFC t) left; rw [zFC_eta] at s2 ⊢; omega
      · skip
        rw [zFC_eta]
def fc137 := (And.intro (And.intro (And.intro (And.intro sz3 (And.intro ag3 zv3)) (And.intro (And.intro un3 sz4) (And.intro ag4 zv4))) (And.intro (And.intro un4 (And.intro sz88 ag88)) (And.intro (And.intro zv88 sb88) (And.intro un88 el88)))) (And.intro (And.intro (And.intro ap88 (And.intro sz283 ag283)) (And.intro (And.intro zv283 fl283_0) (And.intro fl283_1 fl283_2))) (And.intro (And.intro (And.intro fl283_3 fl283_4) (And.intro fl283_5 pl283)) (And.intro (And.intro okf222 sz281) (And.intro sz67 sz65)))))
theorem szFlatCompS_of (xs : List FC) (hx : okLs (2^48) okFC xs) (H : ∀ t ∈ xs, ∀ left : Int, 0 ≤ left ∧ left ≤ 2^20 → FnP Try.prog 222 [agT (eFC t), iT left] (iT (szR (zFC t) left))) (left : Int) (hl : 0 ≤ left ∧ left ≤ 2^20) : FnS Try.prog 137 [] [slT eFC xs, iT left] [] (iT (szR (zL zFC xs) left)) := by
  refine FnS.go [0, 1, 4, 5, 11, 15, 25] [] Try.func137 rfl (fun kt kz => ?_)
  have fcx := fc137
  simp only [Try.f137]
  have hx1 := hx.1
  refine Run (cast_succ) ?_; repeat' (first | (with_reducible exact True.intro) | (with_reducible refine Lf.mk ?_ ?_) | (with_reducible intro hb))
  · simp only [szR_nil hb zL_len]
  · rw [szR_sub hb]
    have hb2 := szR_sub hb ▸ hb
    refine Trn (α := Nat) [1, 4, 5, 12, 13, 14, 15, 16, 17, 18, 19, 20, 21, 22, 23, 24, 25] (fun i => [(5, iT i), (1, iT (szR (zT zFC xs i) left))]) (fun i => []) (fun i => i ≤ xs.length ∧ 0 ≤ szR (zT zFC xs i) left) (fun i => xs.length - i) (0) (⟨Nat.zero_le _, by rw [zT_zero]; exact hb2⟩) ((zT_zero (z := zFC) (l := xs))) ?_; intro lx hI; obtain i := lx; (try simp only [List.nil_append, List.cons_append] at hI ⊢)
    have hz := szR_le (n := zT zFC xs lx) hl.1
    by_cases hlt : lx < xs.length
    · have e : szR (zFC xs[lx]) (szR (zT zFC xs lx) left) = szR (zT zFC xs (lx + 1)) left := by rw [zT_succ hlt, ← szR_add]
      refine Run ((And.intro @eFC_eta (And.intro @eTm_eta @eTy_eta))) ?_; repeat' (first | (with_reducible exact True.intro) | (with_reducible refine Lf.mk ?_ ?_) | (with_reducible intro hb))
      · refine Cal ((And.intro @eFC_eta (And.intro @eTm_eta @eTy_eta))) (H _ (List.getElem_mem hlt) _ ⟨hI.2, by omega⟩) ?_
        refine Run (cast_succ) ?_; repeat' (first | (with_reducible exact True.intro) | (with_reducible refine Lf.mk ?_ ?_) | (with_reducible intro hb))
        · rw [e] at hb
          rw [szR_neg hb zT_le]
        · rw [e] at hb
          exact Nxt (@e) (lx + 1) (⟨by omega, hb⟩) (by first | omega | (simp; omega))
      · omega
    · refine Run (cast_succ) ?_; repeat' (first | (with_reducible exact True.intro) | (with_reducible refine Lf.mk ?_ ?_) | (with_reducible intro hb))
      · omega
      · rw [zT_all (by omega)]

theorem szFlatCompS_ok (xs : List FC) (h : okLs (2^48) okFC xs) (left : Int) (hl : 0 ≤ left ∧ left ≤ 2^20) : FnP Try.prog 137 [slT eFC xs, iT left] (iT (szR (zL zFC xs) left)) := szFlatCompS_of xs h (fun t ht left hl => szFlatComp_ok t (h.2 t ht) left hl) left hl
def fc223 := (And.intro (And.intro (And.intro (And.intro (And.intro (And.intro sz3 ag3) (And.intro zv3 un3)) (And.intro (And.intro sz65 ag65) (And.intro zv65 (And.intro sb65 un65)))) (And.intro (And.intro (And.intro el65 ap65) (And.intro sz67 (And.intro ag67 zv67))) (And.intro (And.intro fl67_0 fl67_1) (And.intro fl67_2 (And.intro fl67_3 fl67_4))))) (And.intro (And.intro (And.intro (And.intro fl67_5 pl67) (And.intro sz75 (And.intro ag75 zv75))) (And.intro (And.intro sb75 un75) (And.intro el75 (And.intro ap75 sz77)))) (And.intro (And.intro (And.intro ag77 zv77) (And.intro fl77_0 (And.intro fl77_1 fl77_2))) (And.intro (And.intro fl77_3 fl77_4) (And.intro fl77_5 (And.intro pl77 sz195)))))) (And.intro (And.intro (And.intro (And.intro (And.intro ag195 zv195) (And.intro sb195 (And.intro un195 el195))) (And.intro (And.intro ap195 sz197) (And.intro ag197 (And.intro zv197 fl197_0)))) (And.intro (And.intro (And.intro fl197_1 fl197_2) (And.intro fl197_3 (And.intro fl197_4 fl197_5))) (And.intro (And.intro pl197 sz281) (And.intro ag281 (And.intro zv281 sb281))))) (And.intro (And.intro (And.intro (And.intro un281 el281) (And.intro ap281 (And.intro sz283 ag283))) (And.intro (And.intro zv283 fl283_0) (And.intro fl283_1 (And.intro fl283_2 fl283_3)))) (And.intro (And.intro (And.intro fl283_4 fl283_5) (And.intro pl283 (And.intro okf124 okf169))) (And.intro (And.intro okf276 sz9) (And.intro sz64 (And.intro sz38 sz74)))))))
theorem toFlatComp_w (t : FC) (h : okFC (2^20) t) : FnS Try.prog 223 [] [agT (eFC t)] [(1000, .row t.gens.length (t.gens.flatMap eGn)), (1002, .row t.wh.ty.labels.length (t.wh.ty.labels.flatMap eS)), (1004, .row t.wh.ty.args.length (t.wh.ty.args.flatMap eTy)), (1006, .row t.wh.labels.length (t.wh.labels.flatMap eS)), (1008, .row t.wh.args.length (t.wh.args.flatMap eTm)), (1010, .row t.cols.length (t.cols.flatMap eTm))] (.ag [.im (.sc (.int .i64 t.outer)), .im (.sc (.int .i64 t.outerGens)), .im (.sc (.int .i64 t.tag)), .os 1000 t.gens.length, .im (.sc (.int .i64 t.wh.kind)), .im (.sc (.string t.wh.name)), .im (.sc (.int .i64 t.wh.n)), .im (.sc (.int .i64 t.wh.ty.kind)), .os 1002 t.wh.ty.labels.length, .os 1004 t.wh.ty.args.length, .os 1006 t.wh.labels.length, .os 1008 t.wh.args.length, .os 1010 t.cols.length]) := by
  refine FnS.go [0, 1, 2, 3] [] Try.func223 rfl (fun kt kz => ?_)
  have fcx := fc223
  simp only [Try.f223]
  have ho := okFC_iff.1 h
  refine Run ((And.intro @eFC_eta (And.intro @eTm_eta @eTy_eta))) ?_; repeat' (first | (with_reducible exact True.intro) | (with_reducible refine Lf.mk ?_ ?_) | (with_reducible intro hb))
  refine CalI ((And.intro @eFC_eta (And.intro @eTm_eta @eTy_eta))) (toGenS_o _ ho.2.2.2.1 1000) ?_
  refine Run ((And.intro @eFC_eta (And.intro @eTm_eta @eTy_eta))) ?_; repeat' (first | (with_reducible exact True.intro) | (with_reducible refine Lf.mk ?_ ?_) | (with_reducible intro hb))
  refine CalI ((And.intro @eFC_eta (And.intro @eTm_eta @eTy_eta))) (toTerm_o _ ho.2.2.2.2.1 1002 1004 1006 1008 (by decide)) ?_
  refine Run ((And.intro @eFC_eta (And.intro @eTm_eta @eTy_eta))) ?_; repeat' (first | (with_reducible exact True.intro) | (with_reducible refine Lf.mk ?_ ?_) | (with_reducible intro hb))
  refine CalI ((And.intro @eFC_eta (And.intro @eTm_eta @eTy_eta))) (toTermS_o _ ho.2.2.2.2.2 1010) ?_
  refine Run ((And.intro @eFC_eta (And.intro @eTm_eta @eTy_eta))) ?_; repeat' (first | (with_reducible exact True.intro) | (with_reducible refine Lf.mk ?_ ?_) | (with_reducible intro hb))

theorem toFlatComp_o (t : FC) (h : okFC (2^20) t) : ∀ q0 q1 q2 q3 q4 q5 : Nat, [q0, q1, q2, q3, q4, q5].Nodup → FnS Try.prog 223 [] [agT (eFC t)] [(q0, .row t.gens.length (t.gens.flatMap eGn)), (q1, .row t.wh.ty.labels.length (t.wh.ty.labels.flatMap eS)), (q2, .row t.wh.ty.args.length (t.wh.ty.args.flatMap eTy)), (q3, .row t.wh.labels.length (t.wh.labels.flatMap eS)), (q4, .row t.wh.args.length (t.wh.args.flatMap eTm)), (q5, .row t.cols.length (t.cols.flatMap eTm))] (.ag [.im (.sc (.int .i64 t.outer)), .im (.sc (.int .i64 t.outerGens)), .im (.sc (.int .i64 t.tag)), .os q0 t.gens.length, .im (.sc (.int .i64 t.wh.kind)), .im (.sc (.string t.wh.name)), .im (.sc (.int .i64 t.wh.n)), .im (.sc (.int .i64 t.wh.ty.kind)), .os q1 t.wh.ty.labels.length, .os q2 t.wh.ty.args.length, .os q3 t.wh.labels.length, .os q4 t.wh.args.length, .os q5 t.cols.length]) := by
  intro q0 q1 q2 q3 q4 q5 hq
  obtain ⟨p, hp⟩ := pml [1000, 1002, 1004, 1006, 1008, 1010] [q0, q1, q2, q3, q4, q5] (by decide) hq rfl
  simp only [List.map_cons, List.map_nil, List.cons.injEq, and_true] at hp
  refine ((toFlatComp_w t h).rows.pm p).as ?_ ?_ <;> simp [rowS, rowO, renS, Ob.ren, TV.ren, renL, Cell.ren, hp]
def fc139 := (And.intro (And.intro (And.intro (And.intro (And.intro sz3 (And.intro ag3 zv3)) (And.intro un3 (And.intro sz4 ag4))) (And.intro (And.intro zv4 (And.intro un4 sz88)) (And.intro ag88 (And.intro zv88 sb88)))) (And.intro (And.intro (And.intro un88 (And.intro el88 ap88)) (And.intro sz93 (And.intro ag93 zv93))) (And.intro (And.intro sb93 (And.intro un93 el93)) (And.intro ap93 (And.intro sz197 ag197))))) (And.intro (And.intro (And.intro (And.intro zv197 (And.intro fl197_0 fl197_1)) (And.intro fl197_2 (And.intro fl197_3 fl197_4))) (And.intro (And.intro fl197_5 (And.intro pl197 sz283)) (And.intro ag283 (And.intro zv283 fl283_0)))) (And.intro (And.intro (And.intro fl283_1 (And.intro fl283_2 fl283_3)) (And.intro fl283_4 (And.intro fl283_5 pl283))) (And.intro (And.intro okf223 (And.intro sz195 sz77)) (And.intro (And.intro sz75 sz281) (And.intro sz67 sz65))))))
theorem toFlatCompS_w (xs : List FC) (hx : okLs (2^20) okFC xs) (H : ∀ t ∈ xs, ∀ q0 q1 q2 q3 q4 q5 : Nat, [q0, q1, q2, q3, q4, q5].Nodup → FnS Try.prog 223 [] [agT (eFC t)] [(q0, .row t.gens.length (t.gens.flatMap eGn)), (q1, .row t.wh.ty.labels.length (t.wh.ty.labels.flatMap eS)), (q2, .row t.wh.ty.args.length (t.wh.ty.args.flatMap eTy)), (q3, .row t.wh.labels.length (t.wh.labels.flatMap eS)), (q4, .row t.wh.args.length (t.wh.args.flatMap eTm)), (q5, .row t.cols.length (t.cols.flatMap eTm))] (.ag [.im (.sc (.int .i64 t.outer)), .im (.sc (.int .i64 t.outerGens)), .im (.sc (.int .i64 t.tag)), .os q0 t.gens.length, .im (.sc (.int .i64 t.wh.kind)), .im (.sc (.string t.wh.name)), .im (.sc (.int .i64 t.wh.n)), .im (.sc (.int .i64 t.wh.ty.kind)), .os q1 t.wh.ty.labels.length, .os q2 t.wh.ty.args.length, .os q3 t.wh.labels.length, .os q4 t.wh.args.length, .os q5 t.cols.length])) : FnS Try.prog 139 [] [slT eFC xs] [(14, .vec 197 13 xs.length (xs.flatMap eFC) true)] (.c (.os 14 xs.length)) := by
  refine FnS.go [0, 2, 3, 4, 11] [] Try.func139 rfl (fun kt kz => ?_)
  have fcx := fc139
  simp only [Try.f139]
  have hx1 := hx.1
  refine Run (cast_succ) ?_; repeat' (first | (with_reducible exact True.intro) | (with_reducible refine Lf.mk ?_ ?_) | (with_reducible intro hb))
  refine Trn (α := Nat) [4, 8, 9, 10, 11, 12, 13, 14, 15, 16, 17, 18, 19, 20, 21] (fun i => [(4, iT i), (3, .c (.os 14 xs.length))]) (fun i => [(14, .vec 197 13 xs.length (filled eFC [.sc (.int .i64 0), .sc (.int .i64 0), .sc (.int .i64 0), .sl 0 [], .sc (.int .i64 0), .sc (.string ⟨#[]⟩), .sc (.int .i64 0), .sc (.int .i64 0), .sl 0 [], .sl 0 [], .sl 0 [], .sl 0 [], .sl 0 []] xs i) true)]) (fun i => i ≤ xs.length) (fun i => xs.length - i) (0) (Nat.zero_le _) (cast_succ) ?_; intro lx hI; obtain i := lx; (try simp only [List.nil_append, List.cons_append] at hI ⊢)
  refine Run ((And.intro @eFC_eta (And.intro @eTm_eta @eTy_eta))) ?_; repeat' (first | (with_reducible exact True.intro) | (with_reducible refine Lf.mk ?_ ?_) | (with_reducible intro hb))
  · refine CalI ((And.intro @eFC_eta (And.intro @eTm_eta @eTy_eta))) (H _ (List.getElem_mem hb) 1000 1002 1004 1006 1008 1010 (by decide)) ?_
    refine Run ((And.intro @eFC_eta (And.intro @eTm_eta @eTy_eta))) ?_; repeat' (first | (with_reducible exact True.intro) | (with_reducible refine Lf.mk ?_ ?_) | (with_reducible intro hb))
    have hs := filled_step' (E := eFC) (zs := [.sc (.int .i64 0), .sc (.int .i64 0), .sc (.int .i64 0), .sl 0 [], .sc (.int .i64 0), .sc (.string ⟨#[]⟩), .sc (.int .i64 0), .sc (.int .i64 0), .sl 0 [], .sl 0 [], .sl 0 [], .sl 0 [], .sl 0 []]) hb
    simp only [eFC_eta, eTm_eta, eTy_eta, setL_st, stL_one, slI] at hs
    exact Nxt (@hs) (lx + 1) (by omega) (by first | omega | (simp; omega))

theorem toFlatCompS_q (xs : List FC) (hx : okLs (2^20) okFC xs) (H : ∀ t ∈ xs, ∀ q0 q1 q2 q3 q4 q5 : Nat, [q0, q1, q2, q3, q4, q5].Nodup → FnS Try.prog 223 [] [agT (eFC t)] [(q0, .row t.gens.length (t.gens.flatMap eGn)), (q1, .row t.wh.ty.labels.length (t.wh.ty.labels.flatMap eS)), (q2, .row t.wh.ty.args.length (t.wh.ty.args.flatMap eTy)), (q3, .row t.wh.labels.length (t.wh.labels.flatMap eS)), (q4, .row t.wh.args.length (t.wh.args.flatMap eTm)), (q5, .row t.cols.length (t.cols.flatMap eTm))] (.ag [.im (.sc (.int .i64 t.outer)), .im (.sc (.int .i64 t.outerGens)), .im (.sc (.int .i64 t.tag)), .os q0 t.gens.length, .im (.sc (.int .i64 t.wh.kind)), .im (.sc (.string t.wh.name)), .im (.sc (.int .i64 t.wh.n)), .im (.sc (.int .i64 t.wh.ty.kind)), .os q1 t.wh.ty.labels.length, .os q2 t.wh.ty.args.length, .os q3 t.wh.labels.length, .os q4 t.wh.args.length, .os q5 t.cols.length])) (q : Nat) : FnS Try.prog 139 [] [slT eFC xs] [(q, .row xs.length (xs.flatMap eFC))] (.c (.os q xs.length)) := by
  obtain ⟨p, hp⟩ := pm1 14 q
  refine ((toFlatCompS_w xs hx H).rows.pm p).as ?_ ?_ <;> simp [rowS, rowO, renS, Ob.ren, TV.ren, Cell.ren, hp]

theorem toFlatCompS_o (xs : List FC) (h : okLs (2^20) okFC xs) (q : Nat) : FnS Try.prog 139 [] [slT eFC xs] [(q, .row xs.length (xs.flatMap eFC))] (.c (.os q xs.length)) := toFlatCompS_q xs h (fun t ht => toFlatComp_o t (h.2 t ht)) q
def fc225 := (And.intro (And.intro (And.intro (And.intro (And.intro sz3 (And.intro ag3 zv3)) (And.intro un3 (And.intro sz4 ag4))) (And.intro (And.intro zv4 (And.intro un4 sz75)) (And.intro ag75 (And.intro zv75 sb75)))) (And.intro (And.intro (And.intro un75 (And.intro el75 ap75)) (And.intro sz77 (And.intro ag77 zv77))) (And.intro (And.intro fl77_0 (And.intro fl77_1 fl77_2)) (And.intro fl77_3 (And.intro fl77_4 fl77_5))))) (And.intro (And.intro (And.intro (And.intro pl77 (And.intro sz195 ag195)) (And.intro zv195 (And.intro sb195 un195))) (And.intro (And.intro el195 (And.intro ap195 sz197)) (And.intro ag197 (And.intro zv197 fl197_0)))) (And.intro (And.intro (And.intro fl197_1 (And.intro fl197_2 fl197_3)) (And.intro fl197_4 (And.intro fl197_5 pl197))) (And.intro (And.intro okf127 (And.intro okf172 okf277)) (And.intro sz9 (And.intro sz74 sz38))))))
theorem eqFlatComp_ok (t : FC) (h : okFC (2^20) t) : FnS Try.prog 225 [] [agT (eFC t), agT (eFC t)] [] (bT true) := by
  refine FnS.go [0, 1, 2, 3, 4, 9, 14, 19, 25, 31, 37] [] Try.func225 rfl (fun kt kz => ?_)
  have fcx := fc225
  simp only [Try.f225]
  have ho := okFC_iff.1 h
  refine Run ((And.intro @eFC_eta (And.intro @eTm_eta @eTy_eta))) ?_; repeat' (first | (with_reducible exact True.intro) | (with_reducible refine Lf.mk ?_ ?_) | (with_reducible intro hb))
  refine Cal ((And.intro @eFC_eta (And.intro @eTm_eta @eTy_eta))) (eqGenS_ok _ ho.2.2.2.1) ?_
  refine Run ((And.intro @eFC_eta (And.intro @eTm_eta @eTy_eta))) ?_; repeat' (first | (with_reducible exact True.intro) | (with_reducible refine Lf.mk ?_ ?_) | (with_reducible intro hb))
  refine Cal ((And.intro @eFC_eta (And.intro @eTm_eta @eTy_eta))) (eqTerm_ok _ ho.2.2.2.2.1) ?_
  refine Run ((And.intro @eFC_eta (And.intro @eTm_eta @eTy_eta))) ?_; repeat' (first | (with_reducible exact True.intro) | (with_reducible refine Lf.mk ?_ ?_) | (with_reducible intro hb))
  refine Cal ((And.intro @eFC_eta (And.intro @eTm_eta @eTy_eta))) (eqTermS_ok _ ho.2.2.2.2.2) ?_
  refine Run ((And.intro @eFC_eta (And.intro @eTm_eta @eTy_eta))) ?_; repeat' (first | (with_reducible exact True.intro) | (with_reducible refine Lf.mk ?_ ?_) | (with_reducible intro hb))
def fc143 := (And.intro (And.intro (And.intro (And.intro sz3 (And.intro ag3 zv3)) (And.intro (And.intro un3 sz4) (And.intro ag4 zv4))) (And.intro (And.intro un4 (And.intro sz93 ag93)) (And.intro (And.intro zv93 sb93) (And.intro un93 el93)))) (And.intro (And.intro (And.intro ap93 (And.intro sz197 ag197)) (And.intro (And.intro zv197 fl197_0) (And.intro fl197_1 fl197_2))) (And.intro (And.intro (And.intro fl197_3 fl197_4) (And.intro fl197_5 pl197)) (And.intro (And.intro okf225 sz195) (And.intro sz77 sz75)))))
theorem eqFlatCompS_of (xs : List FC) (hx : okLs (2^20) okFC xs) (H : ∀ t ∈ xs, FnP Try.prog 225 [agT (eFC t), agT (eFC t)] (bT true)) : FnS Try.prog 143 [] [slT eFC xs, slT eFC xs] [] (bT true) := by
  refine FnS.go [0, 1, 4, 5, 10, 14, 26] [] Try.func143 rfl (fun kt kz => ?_)
  have fcx := fc143
  simp only [Try.f143]
  have hx1 := hx.1
  refine Run (cast_succ) ?_; repeat' (first | (with_reducible exact True.intro) | (with_reducible refine Lf.mk ?_ ?_) | (with_reducible intro hb))
  refine Trn (α := Nat) [4, 5, 11, 12, 13, 14, 15, 16, 17, 18, 19, 20, 21, 22, 23, 24, 25, 26] (fun i => [(5, iT i)]) (fun i => []) (fun i => i ≤ xs.length) (fun i => xs.length - i) (0) (Nat.zero_le _) (cast_succ) ?_; intro lx hI; obtain i := lx; (try simp only [List.nil_append, List.cons_append] at hI ⊢)
  refine Run ((And.intro @eFC_eta (And.intro @eTm_eta @eTy_eta))) ?_; repeat' (first | (with_reducible exact True.intro) | (with_reducible refine Lf.mk ?_ ?_) | (with_reducible intro hb))
  · refine Cal ((And.intro @eFC_eta (And.intro @eTm_eta @eTy_eta))) (H _ (List.getElem_mem hb)) ?_
    refine Run ((And.intro @eFC_eta (And.intro @eTm_eta @eTy_eta))) ?_; repeat' (first | (with_reducible exact True.intro) | (with_reducible refine Lf.mk ?_ ?_) | (with_reducible intro hb))
    exact Nxt (cast_succ) (lx + 1) (by omega) (by first | omega | (simp; omega))

theorem eqFlatCompS_ok (xs : List FC) (h : okLs (2^20) okFC xs) : FnP Try.prog 143 [slT eFC xs, slT eFC xs] (bT true) := eqFlatCompS_of xs h (fun t ht => eqFlatComp_ok t (h.2 t ht))
theorem toFlatComp_ok (t : FC) (h : okFC (2^20) t) : FnP Try.prog 223 [agT (eFC t)] (agT (eFC t)) := (toFlatComp_o t h 1000 1002 1004 1006 1008 1010 (by decide)).tree (by simp -dsimp (maxSteps := 2000000) (disch := omega) only [vs, ↓Option.bind_some, ev1, ofV, scalarB, Kn, Kb, calleeOf, evLoad, ptr, evField, evFieldAddr, shift, ↓pt_at, ↓pt_at1, evExtract, evBin, evLen, evConv, cellsT, noS, Cell.has, Cell.hasN, Cell.anyN, toIV, toIV0, toIVs, ownC, srcM, Ob.own, Ob.esz, allSc, nilK, lenC, ownCell, isPtr, ptrNil, frzO, Cell.frz, Cell.keys, ↓reduceIte, reduceCtorEq, Nat.reduceEqDiff, Nat.reduceBEq, Nat.reduceBNe, Nat.reduceAdd, Nat.reduceMul, Nat.reduceSub, Nat.reduceLT, Nat.reduceLeDiff, Nat.reducePow, Int.reduceLT, Int.reduceLE, Int.reduceEq, Int.reduceNe, quietB, Nat.reduceMod, Int.reduceToNat, ne_eq, eq_self, exists_const, evBytes, byRow, byL, byStr_size, ifsz, ByteArray.size_append, Option.none_or, Option.some_or, eFC_eta, eTm_eta, eTy_eta])
theorem toFlatCompS_ok (xs : List FC) (h : okLs (2^20) okFC xs) : FnP Try.prog 139 [slT eFC xs] (slT eFC xs) := (toFlatCompS_o xs h 1000).tree (by simp -dsimp (maxSteps := 2000000) (disch := omega) only [vs, ↓Option.bind_some, ev1, ofV, scalarB, Kn, Kb, calleeOf, evLoad, ptr, evField, evFieldAddr, shift, ↓pt_at, ↓pt_at1, evExtract, evBin, evLen, evConv, cellsT, noS, Cell.has, Cell.hasN, Cell.anyN, toIV, toIV0, toIVs, ownC, srcM, Ob.own, Ob.esz, allSc, nilK, lenC, ownCell, isPtr, ptrNil, frzO, Cell.frz, Cell.keys, ↓reduceIte, reduceCtorEq, Nat.reduceEqDiff, Nat.reduceBEq, Nat.reduceBNe, Nat.reduceAdd, Nat.reduceMul, Nat.reduceSub, Nat.reduceLT, Nat.reduceLeDiff, Nat.reducePow, Int.reduceLT, Int.reduceLE, Int.reduceEq, Int.reduceNe, quietB, Nat.reduceMod, Int.reduceToNat, ne_eq, eq_self, exists_const, evBytes, byRow, byL, byStr_size, ifsz, ByteArray.size_append, Option.none_or, Option.some_or])

end Go.VC.T
