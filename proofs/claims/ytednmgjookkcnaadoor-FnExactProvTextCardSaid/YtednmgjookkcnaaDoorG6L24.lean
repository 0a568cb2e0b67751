/- strings.Join and slices.Insert at this seat (printed by the kit's tools; to be printed anew at another seat). -/
import Derived.Shelf.Strings.OnBuilder
import Derived.Ground.Names2Prog
import Derived.Shelf.Spec.SlicesInsert
import Derived.Shelf.Spec.SlicesInsertGrow
import Derived.Test.YtednmgjookkcnaaDoorProg
import Derived.Test.YtednmgjookkcnaaDoorG5L24
import Derived.Test.YtednmgjookkcnaaDoorGW3
import Derived.Test.YtednmgjookkcnaaDoorGW4
import Derived.Shelf.LaysM
import Derived.Shelf.Strconv.Itoa3
import Derived.Test.YtednmgjookkcnaaDoorRows
import Derived.Lib.LaidTab
import Derived.LaidLaws
import Derived.Stop.LaidErr
import Derived.Deep.DeepLaidRun
namespace Go.Proofs
open Go.Shelf
def Tryd.lays156_ren : Go.Shelf.Ren := ⟨fun | 156 => 31 | 165 => 47 | 166 => 48 | 169 => 49 | 240 => 68 | 241 => 69 | 276 => 84 | 277 => 85 | n => n, fun | 31 => 51 | 9 => 9 | 3 => 3 | 4 => 4 | 0 => 0 | 20 => 20 | 72 => 83 | 76 => 87 | 70 => 81 | 37 => 73 | 75 => 86 | 127 => 104 | 164 => 116 | 5 => 5 | 80 => 89 | n => n, fun | n => n⟩
theorem Tryd.lays156 : Go.Proofs.Lays.n156 Tryd.prog Tryd.lays156_ren := {
  mixed := by kernel_rfl
  f156 := Tryd.func31.trans (congrArg some (by kernel_rfl))
  f165 := Tryd.func47.trans (congrArg some (by kernel_rfl))
  f166 := Tryd.func48.trans (congrArg some (by kernel_rfl))
  f169 := Tryd.func49.trans (congrArg some (by kernel_rfl))
  f240 := Tryd.func68.trans (congrArg some (by kernel_rfl))
  f241 := Tryd.func69.trans (congrArg some (by kernel_rfl))
  f276 := Tryd.func84.trans (congrArg some (by kernel_rfl))
  f277 := Tryd.func85.trans (congrArg some (by kernel_rfl))
  t0 := Tryd.underlying0
  a0 := Tryd.isAgg0
  z0 := Tryd.sizeOf0
  v0 := Tryd.zeroValue0
  t3 := Tryd.underlying3
  a3 := Tryd.isAgg3
  z3 := Tryd.sizeOf3
  v3 := Tryd.zeroValue3
  t4 := Tryd.underlying4
  a4 := Tryd.isAgg4
  z4 := Tryd.sizeOf4
  v4 := Tryd.zeroValue4
  t9 := Tryd.underlying9
  a9 := Tryd.isAgg9
  z9 := Tryd.sizeOf9
  v9 := Tryd.zeroValue9
  t20 := Tryd.underlying20
  a20 := Tryd.isAgg20
  z20 := Tryd.sizeOf20
  v20 := Tryd.zeroValue20
  t31 := Tryd.underlying51
  a31 := Tryd.isAgg51
  z31 := Tryd.sizeOf51
  v31 := Tryd.zeroValue51
  t37 := Tryd.underlying73
  a37 := Tryd.isAgg73
  z37 := Tryd.sizeOf73
  v37 := Tryd.zeroValue73
  t70 := Tryd.underlying81
  a70 := Tryd.isAgg81
  z70 := Tryd.sizeOf81
  v70 := Tryd.zeroValue81
  t72 := Tryd.underlying83
  a72 := Tryd.isAgg83
  z72 := Tryd.sizeOf83
  v72 := Tryd.zeroValue83
  t75 := Tryd.underlying86
  a75 := Tryd.isAgg86
  z75 := Tryd.sizeOf86
  v75 := Tryd.zeroValue86
  t76 := Tryd.underlying87
  a76 := Tryd.isAgg87
  z76 := Tryd.sizeOf87
  v76 := Tryd.zeroValue87
  t127 := Tryd.underlying104
  a127 := Tryd.isAgg104
  z127 := Tryd.sizeOf104
  v127 := Tryd.zeroValue104
  t164 := Tryd.underlying116
  a164 := Tryd.isAgg116
  z164 := Tryd.sizeOf116
  v164 := Tryd.zeroValue116 }
theorem Tryd.Builder_Extra_156 : Builder.Extra Tryd.prog Tryd.lays156_ren := {
  sizeBuilder := by kernel_rfl
  liesBuilder := by kernel_rfl
  t5 := Tryd.underlying5
  a5 := Tryd.isAgg5
  z5 := Tryd.sizeOf5
  v5 := Tryd.zeroValue5
  infoByte := by kernel_rfl
  cellsByte := by kernel_rfl
  sizeByte := by kernel_rfl
  neB5 := by decide }
open Go.RowKit in
/-- No element: the empty string; the world is as it was. (Whatever the slice's address and capacity: a nil slice too.) (LAID: no walk: one application.) -/
theorem Tryd.strings_Join_none (a : Option Addr) (c : Nat) (sep : ByteArray) (w : World) :
    Calls Tryd.prog 31 #[.slice a 0 c, .string sep] w fun e w' => e = .returned (.string ⟨#[]⟩) ∧ w' = w := Any.strings_Join_none Tryd.lays156 Tryd.Builder_Extra_156 a c sep w
open Go.RowKit in
/-- strings.Join: "Join concatenates the elements of its first argument to create a single string. The separator string sep is placed between elements in the resulting string.": HOWEVER MANY ELEMENTS. Below the heap's end the world is as it was. (LAID: no walk: one application.) -/
theorem Tryd.strings_Join (bk o c : Nat) (xs : List ByteArray) (sep : ByteArray) (w : World) (hcells : ∀ (j : Nat) x, xs[j]? = some x → w.cell? ⟨bk, o + j, none⟩ = some (.string x)) (hbk : bk < w.heap.size) (hN : xs.length ≤ 140737488355328) (hcap : xs.length ≤ c) (hlen : (Lib.join (xs.map (·.data.toList)) sep.data.toList).length ≤ 140737488355328) :
    Calls Tryd.prog 31 #[.slice (some ⟨bk, o, none⟩) xs.length c, .string sep] w fun e w' => e = .returned (.string ⟨(Lib.join (xs.map (·.data.toList)) sep.data.toList).toArray⟩) ∧ Below w.heap.size w w' := Any.strings_Join Tryd.lays156 Tryd.Builder_Extra_156 bk o c xs sep w hcells hbk hN hcap hlen
def Tryd.laysNm222_ren : Go.Shelf.Ren := ⟨fun | 22 => 30 | 29 => 45 | 30 => 46 | 36 => 67 | 17 => 83 | n => n, fun | 24 => 51 | 9 => 9 | 3 => 3 | 4 => 4 | 0 => 0 | n => n, fun | n => n⟩
theorem Tryd.laysNm222 : Go.Proofs.Lays2.n22 Tryd.prog Tryd.laysNm222_ren := {
  mixed := by kernel_rfl
  f17 := Tryd.func83.trans (congrArg some (by kernel_rfl))
  f22 := Tryd.func30.trans (congrArg some (by kernel_rfl))
  f29 := Tryd.func45.trans (congrArg some (by kernel_rfl))
  f30 := Tryd.func46.trans (congrArg some (by kernel_rfl))
  f36 := Tryd.func67.trans (congrArg some (by kernel_rfl))
  t0 := Tryd.underlying0
  a0 := Tryd.isAgg0
  z0 := Tryd.sizeOf0
  v0 := Tryd.zeroValue0
  t3 := Tryd.underlying3
  a3 := Tryd.isAgg3
  z3 := Tryd.sizeOf3
  v3 := Tryd.zeroValue3
  t4 := Tryd.underlying4
  a4 := Tryd.isAgg4
  z4 := Tryd.sizeOf4
  v4 := Tryd.zeroValue4
  t9 := Tryd.underlying9
  a9 := Tryd.isAgg9
  z9 := Tryd.sizeOf9
  v9 := Tryd.zeroValue9
  t24 := Tryd.underlying51
  a24 := Tryd.isAgg51
  z24 := Tryd.sizeOf51
  v24 := Tryd.zeroValue51
  i9 := by kernel_rfl }
end Go.Proofs
/- Texts joined, cloned, put in: the reference, and the library. -/
namespace Go.VC.T
open Go Go.VC Go.Proofs Go.VC.F
set_option linter.unusedSimpArgs false
set_option linter.unusedVariables false
set_option linter.defProp false
set_option maxRecDepth 100000
set_option maxHeartbeats 2000000
def fc29A50 := (And.intro (And.intro (And.intro sz4 ag4) (And.intro zv4 (And.intro un4 sz51))) (And.intro (And.intro ag51 (And.intro zv51 sb51)) (And.intro un51 (And.intro el51 ap51))))
theorem slCloneS_ne (xs : List ByteArray) (hx : xs.length ≤ 2^20) (hn : ¬ xs.length = 0) : FnS Tryd.prog 29 [] [slT eS xs] [(10, .vec 9 1 xs.length (xs.flatMap eS) true)] (.c (.os 10 xs.length)) := by
  refine FnS.go [0, 2, 4] [] Tryd.func29 rfl (fun kt kz => ?_)
  have fcx := fc29A50
  simp only [Tryd.f29]
  refine Run ((And.intro @hn @allSc_eS)) ?_; repeat' (first | (with_reducible exact True.intro) | (with_reducible refine Lf.mk ?_ ?_) | (with_reducible intro hb))
  rename_i b
  have hbf : b = false := by cases b with | false => rfl | true => exact (hb rfl).elim
  have hfl : (xs.flatMap eS).length = xs.length := by rw [flat_len']; omega
  refine Run ((And.intro @hbf (And.intro @allSc_eS @hfl))) ?_; repeat' (first | (with_reducible exact True.intro) | (with_reducible refine Lf.mk ?_ ?_) | (with_reducible intro hb))
theorem slCloneS_nil (u : Unit) : FnS Tryd.prog 29 [] [slT eS []] [(10, .vec 9 1 0 [] true)] (.c (.os 10 0)) := by
  refine FnS.go [0, 2, 4] [] Tryd.func29 rfl (fun kt kz => ?_)
  have fcx := fc29A50
  simp only [Tryd.f29]
  refine Run (@allSc_eS) ?_; repeat' (first | (with_reducible exact True.intro) | (with_reducible refine Lf.mk ?_ ?_) | (with_reducible intro hb))
  cases hb
  · have hf : ([] : List ByteArray).flatMap eS = [] := rfl
    have hl : ([] : List IV).length = 0 := rfl
    have ha : allSc [] = true := rfl
    refine Run ((And.intro @hf (And.intro @hl @ha))) ?_; repeat' (first | (with_reducible exact True.intro) | (with_reducible refine Lf.mk ?_ ?_) | (with_reducible intro hb))
  · refine Sm.cond (b := true) rfl (fun _ => ?_) (fun h => by cases h)
    refine Sm.seq (Sm.region ?_)
    simp -dsimp (maxSteps := 2000000) (disch := omega) only [vs, ↓Option.bind_some, ev1, ofV, scalarB, Kn, Kb, calleeOf, evLoad, ptr, evField, evFieldAddr, shift, ↓pt_at, ↓pt_at1, evExtract, evBin, evLen, evConv, cellsT, noS, Cell.has, Cell.hasN, Cell.anyN, toIV, toIV0, toIVs, ownC, srcM, Ob.own, Ob.esz, allSc, nilK, lenC, ownCell, isPtr, ptrNil, frzO, Cell.frz, Cell.keys, ↓reduceIte, reduceCtorEq, Nat.reduceEqDiff, Nat.reduceBEq, Nat.reduceBNe, Nat.reduceAdd, Nat.reduceMul, Nat.reduceSub, Nat.reduceLT, Nat.reduceLeDiff, Nat.reducePow, Int.reduceLT, Int.reduceLE, Int.reduceEq, Int.reduceNe, quietB, Nat.reduceMod, Int.reduceToNat, ne_eq, eq_self, exists_const, evBytes, byRow, byL, byStr_size, ifsz, ByteArray.size_append, Option.none_or, Option.some_or, evLook, keyD, fc29A50]
    refine Sm.nlT 2 10 9 1 true rfl rfl (by decide) rfl rfl ?_
    exact Sm.ret (RetK.own (.inr rfl) rfl (by simp [subS, get]))

theorem slCloneS_ok (xs : List ByteArray) (hx : xs.length ≤ 2^20) : FnS Tryd.prog 29 [] [slT eS xs] [(10, .vec 9 1 xs.length (xs.flatMap eS) true)] (.c (.os 10 xs.length)) := by
  by_cases hn : xs.length = 0
  · obtain rfl := List.eq_nil_of_length_eq_zero hn
    exact slCloneS_nil ()
  · exact slCloneS_ne xs hx hn
theorem slCloneS_q (xs : List ByteArray) (hx : xs.length ≤ 2^20) (q : Nat) : FnS Tryd.prog 29 [] [slT eS xs] [(q, .vec 9 1 xs.length (xs.flatMap eS) true)] (.c (.os q xs.length)) := by
  obtain ⟨p, hp⟩ := pm1 10 q
  refine ((slCloneS_ok xs hx).pm p).as ?_ ?_ <;> simp [renS, Ob.ren, TV.ren, Cell.ren, hp]
/-- strings.Join. -/
theorem sjoin_q (xs : List ByteArray) (sep : ByteArray) (hN : xs.length ≤ 2^40) (hs : (joinB xs sep).size ≤ 2^46) (q : Nat) : FnS Tryd.prog 31 [(q, .vec 9 1 xs.length (xs.flatMap eS) true)] [.c (.os q xs.length), sT sep] [(q, .vec 9 1 xs.length (xs.flatMap eS) true)] (sT (joinB xs sep)) := by
  have H : FnS Tryd.prog 31 [(1, .vec 9 1 xs.length (xs.flatMap eS) true)] [.c (.os 1 xs.length), sT sep] [(1, .vec 9 1 xs.length (xs.flatMap eS) true)] (sT (joinB xs sep)) := by
    refine FnS.join (fun he a c w => ?_) fun bk o c w h1 h2 h3 => ?_
    · subst he; exact Tryd.strings_Join_none a c sep w
    · exact Tryd.strings_Join bk o c xs sep w h1 h2 (by omega) h3 (by
        have : (joinB xs sep).size = (Lib.join (xs.map (·.data.toList)) sep.data.toList).length := by unfold joinB; rw [ByteArray.size]; simp
        omega)
  obtain ⟨p, hp⟩ := pm1 1 q
  refine (H.renA p).asA ?_ ?_ ?_ ?_ <;> simp [renS, Ob.ren, TV.ren, Cell.ren, hp]
/-- slices.Insert, one text ahead. -/
theorem insert0_q (xs : List ByteArray) (s : ByteArray) (hx : xs.length ≤ 2^20) (q1 q2 : Nat) (hq : q1 ≠ q2) : FnS Tryd.prog 30 [(q1, .vec 9 1 xs.length (xs.flatMap eS) true), (q2, .vec 9 1 1 [.sc (.string s)] true)] [.c (.os q1 xs.length), iT 0, .c (.os q2 1)]
    [(q1, .vec 9 1 (xs.length + 1) ((s :: xs).flatMap eS) true), (q2, .vec 9 1 1 [.sc (.string s)] true)] (.c (.os q1 (xs.length + 1))) := by
  have H : FnS Tryd.prog 30 [(1, .vec 9 1 xs.length (xs.flatMap eS) true), (2, .vec 9 1 1 [.sc (.string s)] true)] [.c (.os 1 xs.length), iT 0, .c (.os 2 1)]
    [(1, .vec 9 1 (xs.length + 1) ((s :: xs).flatMap eS) true), (2, .vec 9 1 1 [.sc (.string s)] true)] (.c (.os 1 (xs.length + 1))) := FnS.insert0 Tryd.laysNm222 xs s hx
  obtain ⟨p, hp⟩ := pml [1, 2] [q1, q2] (by simp) (by simp [hq]) rfl
  simp only [List.map_cons, List.map_nil, List.cons.injEq, and_true] at hp
  refine (H.renA p).asA ?_ ?_ ?_ ?_ <;> simp [renS, Ob.ren, TV.ren, Cell.ren, hp]
def fc26A50 := (And.intro (And.intro (And.intro (And.intro sz3 (And.intro ag3 zv3)) (And.intro un3 (And.intro sz4 ag4))) (And.intro (And.intro zv4 (And.intro un4 sz9)) (And.intro (And.intro ag9 zv9) (And.intro un9 sz51)))) (And.intro (And.intro (And.intro ag51 (And.intro zv51 sb51)) (And.intro un51 (And.intro el51 ap51))) (And.intro (And.intro sz73 (And.intro ag73 zv73)) (And.intro (And.intro sb73 un73) (And.intro el73 ap73)))))
theorem specJoin_ok (xs : List ByteArray) (sep : ByteArray) (hx : xs.length ≤ 2^20) (hz : jz sep xs ≤ 2^46) : FnS Tryd.prog 26 [] [slT eS xs, sT sep] [] (sT (joinB xs sep)) := by
  refine FnS.go [0, 1, 4, 5, 6, 11, 15] [] Tryd.func26 rfl (fun kt kz => ?_)
  have fcx := fc26A50
  simp only [Tryd.f26]
  have hsz : ∀ i, (joinB (xs.take i) sep).size ≤ 2^46 := fun i => Nat.le_trans (joinB_size i) (Nat.le_trans (jz_take i) hz)
  refine RunS (cast_succ) ?_; repeat' (first | (with_reducible exact True.intro) | (with_reducible refine Lf.mk ?_ ?_) | (with_reducible intro hb))
  refine Trn (α := Nat) [5, 6, 8, 9, 10, 11, 12, 13, 14, 15, 16, 17, 18, 19, 20, 21, 22, 23, 24] (fun i => [(6, iT i), (5, .c (.os 14 (joinB (xs.take i) sep).size))]) (fun i => [(14, .vec 5 1 (joinB (xs.take i) sep).size (byI (joinB (xs.take i) sep)) true)]) (fun i => i ≤ xs.length) (fun i => xs.length - i) (0) (Nat.zero_le _) ((joinB_zero (xs := xs) (sep := sep))) ?_; intro lx hI; obtain i := lx; (try simp only [List.nil_append, List.cons_append] at hI ⊢)
  by_cases hlt : lx < xs.length
  · by_cases h0 : lx = 0
    · subst h0
      have e := joinB_take0 (sep := sep) hlt
      have hs1 := hsz 1
      rw [e] at hs1
      have g : ((0 : Int) < ((0 : Nat) : Int)) = False := eq_false (by omega)
      have z0 : (joinB [] sep).size = 0 := rfl
      have z1 : byI (joinB [] sep) = [] := rfl
      refine RunS ((And.intro (And.intro @hlt @g) (And.intro @z0 (And.intro @z1 @eS.eq_1)))) ?_; repeat' (first | (with_reducible exact True.intro) | (with_reducible refine Lf.mk ?_ ?_) | (with_reducible intro hb))
      exact Nxt ((And.intro @e @byI_append)) (1) (by omega) (by first | omega | (simp; omega))
    · have e := joinB_take (sep := sep) hlt h0
      have hs1 := hsz (lx + 1)
      have hs0 := hsz lx
      rw [e, ByteArray.size_append, ByteArray.size_append] at hs1
      have g : ((0 : Int) < (lx : Int)) = True := eq_true (by omega)
      refine RunS ((And.intro @hlt (And.intro @g @eS.eq_1))) ?_; repeat' (first | (with_reducible exact True.intro) | (with_reducible refine Lf.mk ?_ ?_) | (with_reducible intro hb))
      exact Nxt ((And.intro @e (And.intro @byI_append (@List.append_assoc IV)))) (lx + 1) (by omega) (by first | omega | (simp; omega))
  · have e : xs.take lx = xs := List.take_of_length_le (by omega)
    refine RunS ((And.intro (And.intro @hlt (And.intro @e @byI_byL)) (And.intro @byStr_byI (And.intro @byI_len (Tryd.underlying5))))) ?_; repeat' (first | (with_reducible exact True.intro) | (with_reducible refine Lf.mk ?_ ?_) | (with_reducible intro hb))

end Go.VC.T
/- Values as texts: the reference. -/
namespace Go.VC
open Go
def boolB (n : Int) : ByteArray := if n = 1 then ⟨#[35, 116]⟩ else ⟨#[35, 102]⟩
def prtB (k : Int) (ls ts : List ByteArray) : List ByteArray := if k = 3 then List.zipWith (fun l t => l ++ ⟨#[61]⟩ ++ t) ls ts else ts
def valF (k n : Int) (ls ts : List ByteArray) : ByteArray :=
  if k = 1 then fmtB n else if k = 2 then boolB n else if k = 3 then ⟨#[123]⟩ ++ joinB (prtB k ls ts) ⟨#[44]⟩ ++ ⟨#[125]⟩ else ⟨#[91]⟩ ++ joinB (prtB k ls ts) ⟨#[44]⟩ ++ ⟨#[93]⟩
mutual
def valB : Val → ByteArray
  | .mk k n ls ws => valF k n ls (valBL ws)
def valBL : List Val → List ByteArray
  | [] => []
  | a :: r => valB a :: valBL r
end
theorem valBL_eq : ∀ l : List Val, valBL l = l.map valB
  | [] => rfl
  | a :: r => by rw [valBL, valBL_eq r, List.map_cons]
theorem valB_eta (v : Val) : valB v = valF v.kind v.n v.labels (v.args.map valB) := by
  cases v with
  | mk k n ls ws => rw [valB, valBL_eq]; rfl
def prts (v : Val) : List ByteArray := prtB v.kind v.labels (v.args.map valB)
theorem VFh_len {v : Val} (h : VFh v) (hk : v.kind = 3) : v.labels.length = v.args.length := by unfold VFh at h; omega
theorem prts_len {v : Val} (h : VFh v) : (prts v).length = v.args.length := by
  unfold prts prtB
  split
  · rename_i hk; rw [List.length_zipWith, List.length_map, VFh_len h hk, Nat.min_self]
  · rw [List.length_map]
theorem prts_three {v : Val} (h : VFh v) (hk : v.kind = 3) {i : Nat} (hi : i < v.args.length) : (prts v)[i]'(by rw [prts_len h]; exact hi) = v.labels[i]'(by rw [VFh_len h hk]; exact hi) ++ ⟨#[61]⟩ ++ valB v.args[i] := by
  have e : prts v = List.zipWith (fun l t => l ++ ⟨#[61]⟩ ++ t) v.labels (v.args.map valB) := by unfold prts prtB; rw [if_pos hk]
  have := List.getElem_of_eq e (by rw [prts_len h]; exact hi)
  rw [this, List.getElem_zipWith, List.getElem_map]
theorem prts_oth {v : Val} (h : VFh v) (hk : ¬ v.kind = 3) {i : Nat} (hi : i < v.args.length) : (prts v)[i]'(by rw [prts_len h]; exact hi) = valB v.args[i] := by
  have e : prts v = v.args.map valB := by unfold prts prtB; rw [if_neg hk]
  have := List.getElem_of_eq e (by rw [prts_len h]; exact hi)
  rw [this, List.getElem_map]
theorem prt_size (sep : ByteArray) (hs : sep.size = 1) (k : Int) : ∀ (ls : List ByteArray) (ws : List Val), (k = 3 → ∀ l ∈ ls, l.size ≤ 4) → (∀ a ∈ ws, (valB a).size + 6 ≤ 27 * vsz a) → jz sep (prtB k ls (ws.map valB)) ≤ 27 * (ws.map vsz).sum := by
  intro ls ws
  induction ws generalizing ls with
  | nil => intro _ _; unfold prtB jz; split <;> simp
  | cons a r ih =>
    intro h1 h2
    have ha := h2 a (by simp)
    have e3 : (ByteArray.mk #[61]).size = 1 := rfl
    by_cases hk : k = 3
    · cases ls with
      | nil => unfold prtB jz; rw [if_pos hk]; simp
      | cons l ls =>
        have hl := h1 hk l (by simp)
        have := ih ls (fun h l hl => h1 h l (by simp [hl])) (fun a ha => h2 a (by simp [ha]))
        unfold prtB jz at this ⊢
        rw [if_pos hk] at this ⊢
        simp only [List.map_cons, List.zipWith_cons_cons, List.sum_cons, ByteArray.size_append]
        omega
    · have := ih ls (fun h l hl => absurd h hk) (fun a ha => h2 a (by simp [ha]))
      unfold prtB jz at this ⊢
      rw [if_neg hk] at this ⊢
      simp only [List.map_cons, List.sum_cons]
      omega
theorem valB_size (v : Val) (hf : VF v) (h64 : okVal (2^20) v) : (valB v).size + 6 ≤ 27 * vsz v := by
  have hv := (VF_eta v).1 hf
  have ho := okVal_iff.1 h64
  have hn := fmtB_size (n := v.n) ho.2.1
  have hj := prt_size ⟨#[44]⟩ rfl v.kind v.labels v.args (fun hk l hl => by
    have hh := hv.1
    unfold VFh at hh
    rcases hh with h | h | h | h
    · omega
    · omega
    · exact (h.2.2.2.1 l hl).2.1.2
    · omega) (fun a ha => valB_size a (hv.2 a ha) (ho.2.2.2.2 a ha))
  have ht := joinB_size (sep := ⟨#[44]⟩) (xs := prts v) (prts v).length
  rw [List.take_length] at ht
  have ev := vsz_eta v
  have evt : vszT v.args v.args.length = (v.args.map vsz).sum := by unfold vszT; rw [List.take_length]
  have b1 : (ByteArray.mk #[123]).size = 1 := rfl
  have b2 : (ByteArray.mk #[125]).size = 1 := rfl
  have b3 : (ByteArray.mk #[91]).size = 1 := rfl
  have b4 : (ByteArray.mk #[93]).size = 1 := rfl
  have b5 : (ByteArray.mk #[35, 116]).size = 2 := rfl
  have b6 : (ByteArray.mk #[35, 102]).size = 2 := rfl
  have hj' : jz ⟨#[44]⟩ (prts v) ≤ 27 * (v.args.map vsz).sum := hj
  have ejp : joinB (prtB v.kind v.labels (v.args.map valB)) ⟨#[44]⟩ = joinB (prts v) ⟨#[44]⟩ := rfl
  rw [valB_eta]
  unfold valF
  split
  · omega
  · split
    · unfold boolB; split <;> omega
    · split
      · rw [ejp, ByteArray.size_append, ByteArray.size_append]; omega
      · rw [ejp, ByteArray.size_append, ByteArray.size_append]; omega
termination_by SizeOf.sizeOf v
decreasing_by exact Val.mem ha
end Go.VC
namespace Go.VC.T
open Go Go.VC Go.Proofs Go.VC.F
set_option linter.unusedSimpArgs false
set_option linter.unusedVariables false
set_option linter.defProp false
set_option maxRecDepth 100000
set_option maxHeartbeats 2000000
def fc53A60 := (And.intro (And.intro (And.intro (And.intro (And.intro sz3 ag3) (And.intro zv3 un3)) (And.intro (And.intro sz4 ag4) (And.intro zv4 (And.intro un4 sz9)))) (And.intro (And.intro (And.intro ag9 zv9) (And.intro un9 sz51)) (And.intro (And.intro ag51 zv51) (And.intro sb51 (And.intro un51 el51))))) (And.intro (And.intro (And.intro (And.intro ap51 sz66) (And.intro ag66 zv66)) (And.intro (And.intro sb66 un66) (And.intro el66 (And.intro ap66 sz68)))) (And.intro (And.intro (And.intro ag68 zv68) (And.intro fl68_0 (And.intro fl68_1 fl68_2))) (And.intro (And.intro fl68_3 pl68) (And.intro okf22 (And.intro okf26 okf53))))))
theorem l6Text_of (v : Val) (h : okVal (2^20) v) (hz : zVal v ≤ 2^20) (hf : VF v) (H : ∀ a ∈ v.args, FnP Tryd.prog 53 [agT (eVal a)] (sT (valB a))) : FnS Tryd.prog 53 [] [agT (eVal v)] [] (sT (valB v)) := by
  refine FnS.go [0, 1, 2, 3, 4, 5, 11, 22, 36, 37, 42, 51] [] Tryd.func53 rfl (fun kt kz => ?_)
  have fcx := fc53A60
  simp only [Tryd.f53]
  have ho := okVal_iff.1 h
  have hln := ho.2.2.2.1
  have hls := ho.2.2.1
  have hv := (VF_eta v).1 hf
  have hpl := prts_len hv.1
  have hvs := valB_size v hf h
  have hvz := vsz_le v
  have hasz : ∀ a ∈ v.args, (valB a).size ≤ 2^26 := fun a ha => by
    have h1 := valB_size a (hv.2 a ha) (ho.2.2.2.2 a ha)
    have h2 := vsz_le a
    have h3 := zVal_arg ha
    omega
  have b0 : (ByteArray.mk #[61]).size = 1 := rfl
  refine Run ((eVal_eta v)) ?_; repeat' (first | (with_reducible exact True.intro) | (with_reducible refine Lf.mk ?_ ?_) | (with_reducible intro hb))
  refine Trn (α := Nat) [3, 4, 5, 7, 8, 9, 10, 11, 12, 13, 14, 15, 16, 17, 18, 19, 20, 21, 22, 23, 24, 25, 26, 27, 28, 29, 30, 31, 32, 33, 34] (fun i => [(4, iT i), (3, .c (.os 12 i))]) (fun i => [(2, .box 68 ((eVal v).map .im)), (12, .vec 9 1 i (((prts v).take i).flatMap eS) true)]) (fun i => i ≤ v.args.length) (fun i => v.args.length - i) (0) (Nat.zero_le _) ((eVal_eta v)) ?_; intro lx hI; obtain i := lx; (try simp only [List.nil_append, List.cons_append] at hI ⊢)
  by_cases hlt : lx < v.args.length
  · have hlp : lx < (prts v).length := by omega
    have en : ((prts v).take (lx + 1)).flatMap eS = ((prts v).take lx).flatMap eS ++ [.sc (.string (prts v)[lx])] := by rw [take_at hlp, List.flatMap_append]; rfl
    have ha := hasz _ (List.getElem_mem hlt)
    refine Run ((And.intro (eVal_eta v) (And.intro (eVal_eta v.args[lx]) @hlt))) ?_; repeat' (first | (with_reducible exact True.intro) | (with_reducible refine Lf.mk ?_ ?_) | (with_reducible intro hb))
    refine Cal ((eVal_eta v.args[lx])) (H _ (List.getElem_mem hlt)) ?_
    by_cases k3 : v.kind = 3
    · have g3 := eq_true k3
      have hll : lx < v.labels.length := by rw [VFh_len hv.1 k3]; exact hlt
      have hlz : v.labels[lx].size ≤ 2^20 := hls.2 _ (List.getElem_mem hll)
      have hle := VFh_len hv.1 k3
      have ep := prts_three hv.1 k3 hlt
      rw [ep] at en
      refine Run ((And.intro (And.intro (eVal_eta v) @g3) (And.intro @hll @eS.eq_1))) ?_; repeat' (first | (with_reducible exact True.intro) | (with_reducible refine Lf.mk ?_ ?_) | (with_reducible intro hb))
      exact Nxt ((And.intro @en (eVal_eta v))) (lx + 1) (by omega) (by first | omega | (simp; omega))
    · have g3 := eq_false k3
      have ep := prts_oth hv.1 k3 hlt
      rw [ep] at en
      refine Run ((And.intro (eVal_eta v) @g3)) ?_; repeat' (first | (with_reducible exact True.intro) | (with_reducible refine Lf.mk ?_ ?_) | (with_reducible intro hb))
      exact Nxt ((And.intro @en (eVal_eta v))) (lx + 1) (by omega) (by first | omega | (simp; omega))
  · have hlx : lx = v.args.length := by omega
    have et : (prts v).take lx = prts v := List.take_of_length_le (by omega)
    have hjz : jz ⟨#[44]⟩ (prts v) ≤ 2^46 := by
      have h1 := prt_size ⟨#[44]⟩ rfl v.kind v.labels v.args (fun hk l hl => by
        have hh := hv.1
        unfold VFh at hh
        rcases hh with h | h | h | h
        · omega
        · omega
        · exact (h.2.2.2.1 l hl).2.1.2
        · omega) (fun a ha => valB_size a (hv.2 a ha) (ho.2.2.2.2 a ha))
      have ev := vsz_eta v
      have evt : vszT v.args v.args.length = (v.args.map vsz).sum := by unfold vszT; rw [List.take_length]
      have h2 : jz ⟨#[44]⟩ (prts v) ≤ 27 * (v.args.map vsz).sum := h1
      omega
    have hjs : (joinB (prts v) ⟨#[44]⟩).size ≤ 2^46 := by
      have h1 := joinB_size (sep := ⟨#[44]⟩) (xs := prts v) (prts v).length
      rw [List.take_length] at h1
      exact Nat.le_trans h1 hjz
    have hj := specJoin_ok (prts v) ⟨#[44]⟩ (by omega) hjz
    have hsl : slT eS (prts v) = .c (.im (.sl lx ((prts v).flatMap eS))) := by rw [hlx, ← hpl]; rfl
    rw [hsl] at hj
    have b1 : (ByteArray.mk #[123]).size = 1 := rfl
    have b2 : (ByteArray.mk #[125]).size = 1 := rfl
    have b3 : (ByteArray.mk #[91]).size = 1 := rfl
    have b4 : (ByteArray.mk #[93]).size = 1 := rfl
    have b5 : (ByteArray.mk #[102, 116]).size = 2 := rfl
    by_cases k1 : v.kind = 1
    · have g1 := eq_true k1
      have e : fmtB v.n = valB v := by rw [valB_eta]; unfold valF; rw [if_pos k1]
      refine Run ((And.intro (eVal_eta v) (And.intro @hlt @g1))) ?_; repeat' (first | (with_reducible exact True.intro) | (with_reducible refine Lf.mk ?_ ?_) | (with_reducible intro hb))
      refine Cal ((eVal_eta v)) (specFmt_ok v.n ho.2.1) ?_
      refine Run (@e) ?_; repeat' (first | (with_reducible exact True.intro) | (with_reducible refine Lf.mk ?_ ?_) | (with_reducible intro hb))
    · have g1 := eq_false k1
      by_cases k2 : v.kind = 2
      · have g2 := eq_true k2
        have hn : v.n = 0 ∨ v.n = 1 := by have := hv.1; unfold VFh at this; omega
        have ev : valB v = boolB v.n := by rw [valB_eta]; unfold valF; rw [if_neg k1, if_pos k2]
        rcases hn with hn | hn
        · have x1 : (ByteArray.mk #[102, 116]).extract 0 1 = ⟨#[102]⟩ := rfl
          have x2 : (ByteArray.mk #[35]) ++ (ByteArray.mk #[102]) = valB v := by rw [ev, hn]; rfl
          have x3 : (ByteArray.mk #[35]).size = 1 := rfl
          have x4 : (ByteArray.mk #[102]).size = 1 := rfl
          have y1 : ((0 : Int) ≤ 0 + 1 ∧ (0 : Int) + 1 ≤ ((0 : Nat) : Int) + 1 + 1) = True := eq_true (by omega)
          have y2 : ((0 : Int) + 1).toNat = 1 := rfl
          have y3 : (((0 : Nat) : Int) + 1 + 1 ≤ 9223372036854775807) = True := eq_true (by omega)
          refine Run ((And.intro (And.intro (And.intro (eVal_eta v) (And.intro @hlt @g1)) (And.intro @g2 (And.intro @hn @y1))) (And.intro (And.intro @y2 (And.intro @y3 @x1)) (And.intro (And.intro @x2 @b5) (And.intro @x3 @x4))))) ?_; repeat' (first | (with_reducible exact True.intro) | (with_reducible refine Lf.mk ?_ ?_) | (with_reducible intro hb))
        · have x1 : (ByteArray.mk #[102, 116]).extract 1 2 = ⟨#[116]⟩ := rfl
          have x2 : (ByteArray.mk #[35]) ++ (ByteArray.mk #[116]) = valB v := by rw [ev, hn]; rfl
          have x3 : (ByteArray.mk #[35]).size = 1 := rfl
          have x4 : (ByteArray.mk #[116]).size = 1 := rfl
          have y1 : ((1 : Int) ≤ 1 + 1 ∧ (1 : Int) + 1 ≤ ((0 : Nat) : Int) + 1 + 1) = True := eq_true (by omega)
          have y2 : ((1 : Int) + 1).toNat = 2 := rfl
          have y3 : (((0 : Nat) : Int) + 1 + 1 ≤ 9223372036854775807) = True := eq_true (by omega)
          refine Run ((And.intro (And.intro (And.intro (eVal_eta v) (And.intro @hlt @g1)) (And.intro @g2 (And.intro @hn @y1))) (And.intro (And.intro @y2 (And.intro @y3 @x1)) (And.intro (And.intro @x2 @b5) (And.intro @x3 @x4))))) ?_; repeat' (first | (with_reducible exact True.intro) | (with_reducible refine Lf.mk ?_ ?_) | (with_reducible intro hb))
      · have g2 := eq_false k2
        by_cases k3 : v.kind = 3
        · have g3 := eq_true k3
          have e : ⟨#[123]⟩ ++ joinB (prts v) ⟨#[44]⟩ ++ ⟨#[125]⟩ = valB v := by rw [valB_eta]; unfold valF; rw [if_neg k1, if_neg k2, if_pos k3]; rfl
          refine Run ((And.intro (And.intro (eVal_eta v) (And.intro @hlt @g1)) (And.intro @g2 (And.intro @g3 @et)))) ?_; repeat' (first | (with_reducible exact True.intro) | (with_reducible refine Lf.mk ?_ ?_) | (with_reducible intro hb))
          refine Cal ((eVal_eta v)) (hj) ?_
          refine Run (@e) ?_; repeat' (first | (with_reducible exact True.intro) | (with_reducible refine Lf.mk ?_ ?_) | (with_reducible intro hb))
        · have g3 := eq_false k3
          have e : ⟨#[91]⟩ ++ joinB (prts v) ⟨#[44]⟩ ++ ⟨#[93]⟩ = valB v := by rw [valB_eta]; unfold valF; rw [if_neg k1, if_neg k2, if_neg k3]; rfl
          refine Run ((And.intro (And.intro (eVal_eta v) (And.intro @hlt @g1)) (And.intro @g2 (And.intro @g3 @et)))) ?_; repeat' (first | (with_reducible exact True.intro) | (with_reducible refine Lf.mk ?_ ?_) | (with_reducible intro hb))
          refine Cal ((eVal_eta v)) (hj) ?_
          refine Run (@e) ?_; repeat' (first | (with_reducible exact True.intro) | (with_reducible refine Lf.mk ?_ ?_) | (with_reducible intro hb))

theorem l6Text_ok (v : Val) (h : okVal (2^20) v) (hz : zVal v ≤ 2^20) (hf : VF v) : FnP Tryd.prog 53 [agT (eVal v)] (sT (valB v)) :=
  l6Text_of v h hz hf fun u hu => l6Text_ok u ((okVal_iff.1 h).2.2.2.2 u hu) (Nat.le_trans (zVal_arg hu) hz) (((VF_eta v).1 hf).2 u hu)
termination_by SizeOf.sizeOf v
decreasing_by exact Val.mem hu
end Go.VC.T
/- Values that are right: by the program. -/
namespace Go.VC.T
open Go Go.VC Go.Proofs Go.VC.F
set_option linter.unusedSimpArgs false
set_option linter.unusedVariables false
set_option linter.defProp false
set_option maxRecDepth 100000
set_option maxHeartbeats 2000000
def fc88A59 := (And.intro (And.intro (And.intro (And.intro (And.intro sz3 ag3) (And.intro zv3 un3)) (And.intro (And.intro sz4 ag4) (And.intro zv4 un4))) (And.intro (And.intro (And.intro sz51 ag51) (And.intro zv51 sb51)) (And.intro (And.intro un51 el51) (And.intro ap51 (And.intro sz66 ag66))))) (And.intro (And.intro (And.intro (And.intro zv66 sb66) (And.intro un66 el66)) (And.intro (And.intro ap66 sz68) (And.intro ag68 zv68))) (And.intro (And.intro (And.intro fl68_0 fl68_1) (And.intro fl68_2 fl68_3)) (And.intro (And.intro pl68 sz95) (And.intro ag95 (And.intro zv95 un95))))))
theorem plainOk_ok (v : Val) (rest : List IV) : FnS Tryd.prog 88 [] [.c (.im (.pt (eVal v ++ rest)))] [] (bT (decide (PlainV v))) := by
  refine FnS.go [0, 2] [] Tryd.func88 rfl (fun kt kz => ?_)
  have fcx := fc88A59
  simp only [Tryd.f88]
  have hno : ¬ PlainV v → decide (PlainV v) = false := fun h => decide_eq_false h
  have hye : PlainV v → decide (PlainV v) = true := fun h => decide_eq_true h
  by_cases l0 : (v.labels.length : Int) = 0
  · have gl := eq_true l0
    by_cases a0 : (v.args.length : Int) = 0
    · have ga := eq_true a0
      by_cases k1 : v.kind = 1
      · have g1 := eq_true k1
        have e := hye ⟨by omega, by omega, .inl k1⟩
        refine Run ((And.intro (And.intro (eVal_eta v) @gl) (And.intro @ga (And.intro @g1 @e)))) ?_; repeat' (first | (with_reducible exact True.intro) | (with_reducible refine Lf.mk ?_ ?_) | (with_reducible intro hb))
      · have g1 := eq_false k1
        by_cases k2 : v.kind = 2
        · have g2 := eq_true k2
          by_cases n0 : v.n = 0
          · have gn := eq_true n0
            have e := hye ⟨by omega, by omega, .inr ⟨k2, .inl n0⟩⟩
            refine Run ((And.intro (And.intro (eVal_eta v) (And.intro @gl @ga)) (And.intro (And.intro @g1 @g2) (And.intro @gn @e)))) ?_; repeat' (first | (with_reducible exact True.intro) | (with_reducible refine Lf.mk ?_ ?_) | (with_reducible intro hb))
          · have gn := eq_false n0
            have e : decide (v.n = 1) = decide (PlainV v) := decide_eq_decide.2 ⟨fun h => ⟨by omega, by omega, .inr ⟨k2, .inr h⟩⟩, fun h => by unfold PlainV at h; omega⟩
            refine Run ((And.intro (And.intro (eVal_eta v) (And.intro @gl @ga)) (And.intro (And.intro @g1 @g2) (And.intro @gn @e)))) ?_; repeat' (first | (with_reducible exact True.intro) | (with_reducible refine Lf.mk ?_ ?_) | (with_reducible intro hb))
        · have g2 := eq_false k2
          have e := hno (fun h => by unfold PlainV at h; omega)
          refine Run ((And.intro (And.intro (eVal_eta v) (And.intro @gl @ga)) (And.intro @g1 (And.intro @g2 @e)))) ?_; repeat' (first | (with_reducible exact True.intro) | (with_reducible refine Lf.mk ?_ ?_) | (with_reducible intro hb))
    · have ga := eq_false a0
      have e := hno (fun h => by unfold PlainV at h; omega)
      refine Run ((And.intro (And.intro (eVal_eta v) @gl) (And.intro @ga @e))) ?_; repeat' (first | (with_reducible exact True.intro) | (with_reducible refine Lf.mk ?_ ?_) | (with_reducible intro hb))
  · have gl := eq_false l0
    have e := hno (fun h => by unfold PlainV at h; omega)
    refine Run ((And.intro (eVal_eta v) (And.intro @gl @e))) ?_; repeat' (first | (with_reducible exact True.intro) | (with_reducible refine Lf.mk ?_ ?_) | (with_reducible intro hb))
def fc76A59 := (And.intro (And.intro (And.intro (And.intro (And.intro sz3 ag3) (And.intro zv3 un3)) (And.intro (And.intro sz4 ag4) (And.intro zv4 (And.intro un4 sz51)))) (And.intro (And.intro (And.intro ag51 zv51) (And.intro sb51 un51)) (And.intro (And.intro el51 ap51) (And.intro sz66 (And.intro ag66 zv66))))) (And.intro (And.intro (And.intro (And.intro sb66 un66) (And.intro el66 ap66)) (And.intro (And.intro sz68 ag68) (And.intro zv68 (And.intro fl68_0 fl68_1)))) (And.intro (And.intro (And.intro fl68_2 fl68_3) (And.intro pl68 (And.intro sz95 ag95))) (And.intro (And.intro zv95 un95) (And.intro okf76 (And.intro okf87 okf88))))))
theorem valForm_of (v : Val) (h : okVal (2^20) v) (rest : List IV) (H : ∀ a ∈ v.args, ∀ rest : List IV, FnP Tryd.prog 76 [.c (.im (.pt (eVal a ++ rest)))] (bT (decide (VF a)))) : FnS Tryd.prog 76 [] [.c (.im (.pt (eVal v ++ rest)))] [] (bT (decide (VF v))) := by
  refine FnS.go [0, 2, 3, 7, 10, 37, 38, 52, 57, 58, 59, 68] [] Tryd.func76 rfl (fun kt kz => ?_)
  have fcx := fc76A59
  simp only [Tryd.f76]
  have ho := okVal_iff.1 h
  have hln := ho.2.2.2.1
  have hls := ho.2.2.1
  have hno : ¬ VFh v → decide (VF v) = false := fun h => decide_eq_false fun h' => h ((VF_eta v).1 h').1
  by_cases k3 : v.kind = 3
  · have g3 := eq_true k3
    by_cases n0 : v.n = 0
    · have gn := eq_true n0
      by_cases le : (v.args.length : Int) = (v.labels.length : Int)
      · have ge := eq_true le
        refine Run ((And.intro (And.intro (eVal_eta v) @g3) (And.intro @gn @ge))) ?_; repeat' (first | (with_reducible exact True.intro) | (with_reducible refine Lf.mk ?_ ?_) | (with_reducible intro hb))
        refine Cal ((eVal_eta v)) (implLabs_ok v.labels hls) ?_
        by_cases hl : LabsOk v.labels
        · have gl := eq_true hl
          have hh : VFh v := .inr (.inr (.inl ⟨k3, n0, by omega, hl⟩))
          refine Run ((And.intro (eVal_eta v) @gl)) ?_; repeat' (first | (with_reducible exact True.intro) | (with_reducible refine Lf.mk ?_ ?_) | (with_reducible intro hb))
          refine Trn (α := Nat) [2, 3, 58, 59, 60, 61, 62, 63, 64, 65, 66, 67, 68, 69] (fun i => [(58, iT i)]) (fun i => []) (fun i => i ≤ v.args.length ∧ ∀ a ∈ v.args.take i, VF a) (fun i => v.args.length - i) (0) (⟨Nat.zero_le _, fun s hs => by simp at hs⟩) ((eVal_eta v)) ?_; intro lx hI; obtain i := lx; (try simp only [List.nil_append, List.cons_append] at hI ⊢)
          by_cases hlt : lx < v.args.length
          · refine Run ((And.intro (eVal_eta v) @hlt)) ?_; repeat' (first | (with_reducible exact True.intro) | (with_reducible refine Lf.mk ?_ ?_) | (with_reducible intro hb))
            refine Cal ((eVal_eta v)) (H _ (List.getElem_mem hlt) _) ?_
            by_cases hf : VF v.args[lx]
            · have gf := eq_true hf
              refine Run (@gf) ?_; repeat' (first | (with_reducible exact True.intro) | (with_reducible refine Lf.mk ?_ ?_) | (with_reducible intro hb))
              exact Nxt ((eVal_eta v)) (lx + 1) (⟨by omega, fun s hs => by
                rw [take_at hlt, List.mem_append] at hs
                rcases hs with h1 | h1
                · exact hI.2 s h1
                · rw [List.mem_singleton] at h1; subst h1; exact hf⟩) (by first | omega | (simp; omega))
            · have gf := eq_false hf
              have e : decide (VF v) = false := decide_eq_false fun h => hf ((VF_eta v).1 h |>.2 _ (List.getElem_mem hlt))
              refine Run ((And.intro @gf @e)) ?_; repeat' (first | (with_reducible exact True.intro) | (with_reducible refine Lf.mk ?_ ?_) | (with_reducible intro hb))
          · have e : decide (VF v) = true := decide_eq_true ((VF_eta v).2 ⟨hh, fun s hs => hI.2 s (by rw [List.take_of_length_le (by omega)]; exact hs)⟩)
            refine Run ((And.intro (eVal_eta v) (And.intro @hlt @e))) ?_; repeat' (first | (with_reducible exact True.intro) | (with_reducible refine Lf.mk ?_ ?_) | (with_reducible intro hb))
        · have gl := eq_false hl
          have e := hno (fun h => by unfold VFh at h; rcases h with h | h | h | h <;> first | exact hl h.2.2.2 | omega)
          refine Run ((And.intro (eVal_eta v) (And.intro @gl @e))) ?_; repeat' (first | (with_reducible exact True.intro) | (with_reducible refine Lf.mk ?_ ?_) | (with_reducible intro hb))
      · have ge := eq_false le
        have e := hno (fun h => by unfold VFh at h; omega)
        refine Run ((And.intro (And.intro (eVal_eta v) @g3) (And.intro @gn (And.intro @ge @e)))) ?_; repeat' (first | (with_reducible exact True.intro) | (with_reducible refine Lf.mk ?_ ?_) | (with_reducible intro hb))
    · have gn := eq_false n0
      have e := hno (fun h => by unfold VFh at h; omega)
      refine Run ((And.intro (And.intro (eVal_eta v) @g3) (And.intro @gn @e))) ?_; repeat' (first | (with_reducible exact True.intro) | (with_reducible refine Lf.mk ?_ ?_) | (with_reducible intro hb))
  · have g3 := eq_false k3
    by_cases k4 : v.kind = 4
    · have g4 := eq_true k4
      by_cases n0 : v.n = 0
      · have gn := eq_true n0
        by_cases l0 : 0 < (v.labels.length : Int)
        · have gl := eq_true l0
          have e := hno (fun h => by unfold VFh at h; omega)
          refine Run ((And.intro (And.intro (eVal_eta v) (And.intro @g3 @g4)) (And.intro @gn (And.intro @gl @e)))) ?_; repeat' (first | (with_reducible exact True.intro) | (with_reducible refine Lf.mk ?_ ?_) | (with_reducible intro hb))
        · have gl := eq_false l0
          have hh : VFh v := .inr (.inr (.inr ⟨k4, n0, by omega⟩))
          refine Run ((And.intro (And.intro (eVal_eta v) @g3) (And.intro @g4 (And.intro @gn @gl)))) ?_; repeat' (first | (with_reducible exact True.intro) | (with_reducible refine Lf.mk ?_ ?_) | (with_reducible intro hb))
          refine Trn (α := Nat) [2, 3, 58, 59, 60, 61, 62, 63, 64, 65, 66, 67, 68, 69] (fun i => [(58, iT i)]) (fun i => []) (fun i => i ≤ v.args.length ∧ ∀ a ∈ v.args.take i, VF a) (fun i => v.args.length - i) (0) (⟨Nat.zero_le _, fun s hs => by simp at hs⟩) ((eVal_eta v)) ?_; intro lx hI; obtain i := lx; (try simp only [List.nil_append, List.cons_append] at hI ⊢)
          by_cases hlt : lx < v.args.length
          · refine Run ((And.intro (eVal_eta v) @hlt)) ?_; repeat' (first | (with_reducible exact True.intro) | (with_reducible refine Lf.mk ?_ ?_) | (with_reducible intro hb))
            refine Cal ((eVal_eta v)) (H _ (List.getElem_mem hlt) _) ?_
            by_cases hf : VF v.args[lx]
            · have gf := eq_true hf
              refine Run (@gf) ?_; repeat' (first | (with_reducible exact True.intro) | (with_reducible refine Lf.mk ?_ ?_) | (with_reducible intro hb))
              exact Nxt ((eVal_eta v)) (lx + 1) (⟨by omega, fun s hs => by
                rw [take_at hlt, List.mem_append] at hs
                rcases hs with h1 | h1
                · exact hI.2 s h1
                · rw [List.mem_singleton] at h1; subst h1; exact hf⟩) (by first | omega | (simp; omega))
            · have gf := eq_false hf
              have e : decide (VF v) = false := decide_eq_false fun h => hf ((VF_eta v).1 h |>.2 _ (List.getElem_mem hlt))
              refine Run ((And.intro @gf @e)) ?_; repeat' (first | (with_reducible exact True.intro) | (with_reducible refine Lf.mk ?_ ?_) | (with_reducible intro hb))
          · have e : decide (VF v) = true := decide_eq_true ((VF_eta v).2 ⟨hh, fun s hs => hI.2 s (by rw [List.take_of_length_le (by omega)]; exact hs)⟩)
            refine Run ((And.intro (eVal_eta v) (And.intro @hlt @e))) ?_; repeat' (first | (with_reducible exact True.intro) | (with_reducible refine Lf.mk ?_ ?_) | (with_reducible intro hb))
      · have gn := eq_false n0
        have e := hno (fun h => by unfold VFh at h; omega)
        refine Run ((And.intro (And.intro (eVal_eta v) @g3) (And.intro @g4 (And.intro @gn @e)))) ?_; repeat' (first | (with_reducible exact True.intro) | (with_reducible refine Lf.mk ?_ ?_) | (with_reducible intro hb))
    · have g4 := eq_false k4
      have e : decide (PlainV v) = decide (VF v) := decide_eq_decide.2 ⟨fun h => (VF_eta v).2 ⟨by unfold PlainV at h; unfold VFh; omega, fun a ha => by have := h.2.1; have := List.eq_nil_of_length_eq_zero this; rw [this] at ha; simp at ha⟩, fun h => by have := ((VF_eta v).1 h).1; unfold VFh at this; unfold PlainV; omega⟩
      refine Run ((And.intro (eVal_eta v) (And.intro @g3 @g4))) ?_; repeat' (first | (with_reducible exact True.intro) | (with_reducible refine Lf.mk ?_ ?_) | (with_reducible intro hb))
      refine Cal ((eVal_eta v)) (plainOk_ok v rest) ?_
      refine Run (@e) ?_; repeat' (first | (with_reducible exact True.intro) | (with_reducible refine Lf.mk ?_ ?_) | (with_reducible intro hb))

theorem valForm_ok (v : Val) (h : okVal (2^20) v) (rest : List IV) : FnP Tryd.prog 76 [.c (.im (.pt (eVal v ++ rest)))] (bT (decide (VF v))) :=
  valForm_of v h rest fun u hu rest => valForm_ok u ((okVal_iff.1 h).2.2.2.2 u hu) rest
termination_by SizeOf.sizeOf v
decreasing_by exact Val.mem hu
def fc55A59 := (And.intro (And.intro (And.intro (And.intro sz3 (And.intro ag3 zv3)) (And.intro un3 (And.intro sz4 ag4))) (And.intro (And.intro zv4 (And.intro un4 sz68)) (And.intro ag68 (And.intro zv68 fl68_0)))) (And.intro (And.intro (And.intro fl68_1 (And.intro fl68_2 fl68_3)) (And.intro pl68 (And.intro sz95 ag95))) (And.intro (And.intro zv95 (And.intro un95 okf75)) (And.intro okf76 (And.intro sz51 sz66)))))
theorem implVal_ok (v : Val) (h : okVal (2^20) v) (hz : zVal v ≤ 2^20) : FnS Tryd.prog 55 [] [agT (eVal v)] [] (bT (decide (ValOk v))) := by
  refine FnS.go [0, 1, 2] [] Tryd.func55 rfl (fun kt kz => ?_)
  have fcx := fc55A59
  simp only [Tryd.f55]
  have hf := valForm_ok v h []
  rw [List.append_nil] at hf
  refine Run ((eVal_eta v)) ?_; repeat' (first | (with_reducible exact True.intro) | (with_reducible refine Lf.mk ?_ ?_) | (with_reducible intro hb))
  refine Cal ((eVal_eta v)) (sizeVal_ok v h hz) ?_
  by_cases h1 : (vsz v : Int) ≤ 2000
  · have g1 := eq_true h1
    have e : decide (VF v) = decide (ValOk v) := decide_eq_decide.2 ⟨fun h => ⟨by omega, h⟩, fun h => h.2⟩
    refine Run ((And.intro (eVal_eta v) @g1)) ?_; repeat' (first | (with_reducible exact True.intro) | (with_reducible refine Lf.mk ?_ ?_) | (with_reducible intro hb))
    refine Cal ((eVal_eta v)) (hf) ?_
    refine Run (@e) ?_; repeat' (first | (with_reducible exact True.intro) | (with_reducible refine Lf.mk ?_ ?_) | (with_reducible intro hb))
  · have g1 := eq_false h1
    have e : decide (ValOk v) = false := decide_eq_false fun h => by have := h.1; omega
    refine Run ((And.intro (eVal_eta v) (And.intro @g1 @e))) ?_; repeat' (first | (with_reducible exact True.intro) | (with_reducible refine Lf.mk ?_ ?_) | (with_reducible intro hb))

end Go.VC.T
/- Values as texts: both sides. -/
namespace Go.VC
open Go
noncomputable def fvB (v : Val) : ByteArray := if ValOk v then valB v else ⟨#[]⟩
end Go.VC
namespace Go.VC.T
open Go Go.VC Go.Proofs Go.VC.F
set_option linter.unusedSimpArgs false
set_option linter.unusedVariables false
set_option linter.defProp false
set_option maxRecDepth 100000
set_option maxHeartbeats 2000000
def fc34A61 := (And.intro (And.intro (And.intro (And.intro sz4 ag4) (And.intro zv4 (And.intro un4 sz9))) (And.intro (And.intro ag9 zv9) (And.intro un9 (And.intro sz68 ag68)))) (And.intro (And.intro (And.intro zv68 fl68_0) (And.intro fl68_1 (And.intro fl68_2 fl68_3))) (And.intro (And.intro pl68 (And.intro okf52 okf53)) (And.intro sz3 (And.intro sz51 sz66)))))
theorem specFV_ok (v : Val) (h : okVal (2^20) v) (hz : zVal v ≤ 2^20) : FnS Tryd.prog 34 [] [agT (eVal v)] [] (sT (fvB v)) := by
  refine FnS.go [0, 1, 2, 5] [] Tryd.func34 rfl (fun kt kz => ?_)
  have fcx := fc34A61
  simp only [Tryd.f34]
  refine Run ((eVal_eta v)) ?_; repeat' (first | (with_reducible exact True.intro) | (with_reducible refine Lf.mk ?_ ?_) | (with_reducible intro hb))
  refine Cal ((eVal_eta v)) (specVal_ok v h) ?_
  by_cases hv : ValOk v
  · have gv := eq_true hv
    have e : fvB v = valB v := if_pos hv
    refine Run ((And.intro (eVal_eta v) @gv)) ?_; repeat' (first | (with_reducible exact True.intro) | (with_reducible refine Lf.mk ?_ ?_) | (with_reducible intro hb))
    refine Cal ((eVal_eta v)) (l6Text_ok v h hz hv.2) ?_
    refine Run (@e) ?_; repeat' (first | (with_reducible exact True.intro) | (with_reducible refine Lf.mk ?_ ?_) | (with_reducible intro hb))
  · have gv := eq_false hv
    have e : fvB v = ⟨#[]⟩ := if_neg hv
    refine Run ((And.intro (eVal_eta v) (And.intro @gv @e))) ?_; repeat' (first | (with_reducible exact True.intro) | (with_reducible refine Lf.mk ?_ ?_) | (with_reducible intro hb))
def fc77A61 := (And.intro (And.intro (And.intro sz3 (And.intro ag3 zv3)) (And.intro un3 (And.intro sz4 ag4))) (And.intro (And.intro zv4 (And.intro un4 sz9)) (And.intro ag9 (And.intro zv9 un9))))
theorem boolText_ok (n : Int) : FnS Tryd.prog 77 [] [iT n] [] (sT (boolB n)) := by
  refine FnS.go [0, 2, 4] [] Tryd.func77 rfl (fun kt kz => ?_)
  have fcx := fc77A61
  simp only [Tryd.f77]
  by_cases h : n = 1
  · have e : boolB n = ⟨#[35, 116]⟩ := if_pos h
    have g := eq_true h
    refine Run ((And.intro @g @e)) ?_; repeat' (first | (with_reducible exact True.intro) | (with_reducible refine Lf.mk ?_ ?_) | (with_reducible intro hb))
  · have e : boolB n = ⟨#[35, 102]⟩ := if_neg h
    have g := eq_false h
    refine Run ((And.intro @g @e)) ?_; repeat' (first | (with_reducible exact True.intro) | (with_reducible refine Lf.mk ?_ ?_) | (with_reducible intro hb))
def fc56A61 := (And.intro (And.intro (And.intro (And.intro (And.intro sz3 ag3) (And.intro zv3 (And.intro un3 sz4))) (And.intro (And.intro ag4 zv4) (And.intro un4 (And.intro sz9 ag9)))) (And.intro (And.intro (And.intro zv9 un9) (And.intro sz51 (And.intro ag51 zv51))) (And.intro (And.intro sb51 (And.intro un51 el51)) (And.intro ap51 (And.intro sz66 ag66))))) (And.intro (And.intro (And.intro (And.intro zv66 sb66) (And.intro un66 (And.intro el66 ap66))) (And.intro (And.intro sz68 ag68) (And.intro zv68 (And.intro fl68_0 fl68_1)))) (And.intro (And.intro (And.intro fl68_2 fl68_3) (And.intro pl68 (And.intro sz95 ag95))) (And.intro (And.intro zv95 (And.intro un95 okf23)) (And.intro okf31 (And.intro okf56 okf77))))))
theorem valText_of (b : Nat) (x : Obj) (v : Val) (h : okVal (2^20) v) (hz : zVal v ≤ 2^20) (hf : VF v) (rest : List IV) (HF : ∀ n, ok64 n → FnS Tryd.prog 23 [(1, .gl b x)] [iT n] [(1, .gl b x)] (sT (fmtB n))) (H : ∀ a ∈ v.args, ∀ rest : List IV, FnS Tryd.prog 56 [(1, .gl b x)] [.c (.im (.pt (eVal a ++ rest)))] [(1, .gl b x)] (sT (valB a))) : FnS Tryd.prog 56 [(1, .gl b x)] [.c (.im (.pt (eVal v ++ rest)))] [(1, .gl b x)] (sT (valB v)) := by
  refine FnS.go [0, 2, 3, 4, 5, 9, 10, 17, 29, 30, 31, 44, 64] [] Tryd.func56 rfl (fun kt kz => ?_)
  have fcx := fc56A61
  simp only [Tryd.f56]
  have ho := okVal_iff.1 h
  have hln := ho.2.2.2.1
  have hls := ho.2.2.1
  have hv := (VF_eta v).1 hf
  have hpl := prts_len hv.1
  have hvs := valB_size v hf h
  have hvz := vsz_le v
  have hasz : ∀ a ∈ v.args, (valB a).size ≤ 2^26 := fun a ha => by
    have h1 := valB_size a (hv.2 a ha) (ho.2.2.2.2 a ha)
    have h2 := vsz_le a
    have h3 := zVal_arg ha
    omega
  have b0 : (ByteArray.mk #[61]).size = 1 := rfl
  by_cases k1 : v.kind = 1
  · have g1 := eq_true k1
    have e : fmtB v.n = valB v := by rw [valB_eta]; unfold valF; rw [if_pos k1]
    refine Run ((And.intro (eVal_eta v) @g1)) ?_; repeat' (first | (with_reducible exact True.intro) | (with_reducible refine Lf.mk ?_ ?_) | (with_reducible intro hb))
    refine CalO ((eVal_eta v)) (HF v.n ho.2.1) ?_
    refine Run (@e) ?_; repeat' (first | (with_reducible exact True.intro) | (with_reducible refine Lf.mk ?_ ?_) | (with_reducible intro hb))
  · have g1 := eq_false k1
    by_cases k2 : v.kind = 2
    · have g2 := eq_true k2
      have e : boolB v.n = valB v := by rw [valB_eta]; unfold valF; rw [if_neg k1, if_pos k2]
      refine Run ((And.intro (eVal_eta v) (And.intro @g1 @g2))) ?_; repeat' (first | (with_reducible exact True.intro) | (with_reducible refine Lf.mk ?_ ?_) | (with_reducible intro hb))
      refine Cal ((eVal_eta v)) (boolText_ok v.n) ?_
      refine Run (@e) ?_; repeat' (first | (with_reducible exact True.intro) | (with_reducible refine Lf.mk ?_ ?_) | (with_reducible intro hb))
    · have g2 := eq_false k2
      refine Run ((And.intro (eVal_eta v) (And.intro @g1 @g2))) ?_; repeat' (first | (with_reducible exact True.intro) | (with_reducible refine Lf.mk ?_ ?_) | (with_reducible intro hb))
      refine Trn (α := Nat) [3, 4, 5, 30, 31, 32, 33, 34, 35, 36, 37, 38, 39, 40, 41, 42, 43, 44, 45, 46, 47, 48, 49, 50, 51, 52, 53, 54, 55, 56, 57, 58, 59] (fun i => [(30, iT i), (3, .c (.os 48 i))]) (fun i => [(1, .gl b x), (48, .vec 9 1 i (((prts v).take i).flatMap eS) true)]) (fun i => i ≤ v.args.length) (fun i => v.args.length - i) (0) (Nat.zero_le _) ((eVal_eta v)) ?_; intro lx hI; obtain i := lx; (try simp only [List.nil_append, List.cons_append] at hI ⊢)
      by_cases hlt : lx < v.args.length
      · have hlp : lx < (prts v).length := by omega
        have en : ((prts v).take (lx + 1)).flatMap eS = ((prts v).take lx).flatMap eS ++ [.sc (.string (prts v)[lx])] := by rw [take_at hlp, List.flatMap_append]; rfl
        have ha := hasz _ (List.getElem_mem hlt)
        refine Run ((And.intro (eVal_eta v) @hlt)) ?_; repeat' (first | (with_reducible exact True.intro) | (with_reducible refine Lf.mk ?_ ?_) | (with_reducible intro hb))
        refine CalO ((eVal_eta v)) (H _ (List.getElem_mem hlt) _) ?_
        by_cases k3 : v.kind = 3
        · have g3 := eq_true k3
          have hll : lx < v.labels.length := by rw [VFh_len hv.1 k3]; exact hlt
          have hlz : v.labels[lx].size ≤ 2^20 := hls.2 _ (List.getElem_mem hll)
          have hle := VFh_len hv.1 k3
          have ep := prts_three hv.1 k3 hlt
          rw [ep] at en
          refine Run ((And.intro (And.intro (eVal_eta v) @g3) (And.intro @hll @eS.eq_1))) ?_; repeat' (first | (with_reducible exact True.intro) | (with_reducible refine Lf.mk ?_ ?_) | (with_reducible intro hb))
          exact Nxt ((And.intro @en (eVal_eta v))) (lx + 1) (by omega) (by first | omega | (simp; omega))
        · have g3 := eq_false k3
          have ep := prts_oth hv.1 k3 hlt
          rw [ep] at en
          refine Run ((And.intro (eVal_eta v) @g3)) ?_; repeat' (first | (with_reducible exact True.intro) | (with_reducible refine Lf.mk ?_ ?_) | (with_reducible intro hb))
          exact Nxt ((And.intro @en (eVal_eta v))) (lx + 1) (by omega) (by first | omega | (simp; omega))
      · have hlx : lx = v.args.length := by omega
        have et : (prts v).take lx = prts v := List.take_of_length_le (by omega)
        have hjz : jz ⟨#[44]⟩ (prts v) ≤ 2^46 := by
          have h1 := prt_size ⟨#[44]⟩ rfl v.kind v.labels v.args (fun hk l hl => by
            have hh := hv.1
            unfold VFh at hh
            rcases hh with h | h | h | h
            · omega
            · omega
            · exact (h.2.2.2.1 l hl).2.1.2
            · omega) (fun a ha => valB_size a (hv.2 a ha) (ho.2.2.2.2 a ha))
          have ev := vsz_eta v
          have evt : vszT v.args v.args.length = (v.args.map vsz).sum := by unfold vszT; rw [List.take_length]
          have h2 : jz ⟨#[44]⟩ (prts v) ≤ 27 * (v.args.map vsz).sum := h1
          omega
        have hjs : (joinB (prts v) ⟨#[44]⟩).size ≤ 2^46 := by
          have h1 := joinB_size (sep := ⟨#[44]⟩) (xs := prts v) (prts v).length
          rw [List.take_length] at h1
          exact Nat.le_trans h1 hjz
        have hj := sjoin_q (prts v) ⟨#[44]⟩ (by omega) hjs 48
        rw [hpl, ← hlx] at hj
        have b1 : (ByteArray.mk #[123]).size = 1 := rfl
        have b2 : (ByteArray.mk #[125]).size = 1 := rfl
        have b3 : (ByteArray.mk #[91]).size = 1 := rfl
        have b4 : (ByteArray.mk #[93]).size = 1 := rfl
        by_cases k3 : v.kind = 3
        · have g3 := eq_true k3
          have e : ⟨#[123]⟩ ++ joinB (prts v) ⟨#[44]⟩ ++ ⟨#[125]⟩ = valB v := by rw [valB_eta]; unfold valF; rw [if_neg k1, if_neg k2, if_pos k3]; rfl
          refine Run ((And.intro (And.intro (eVal_eta v) @hlt) (And.intro @g3 @et))) ?_; repeat' (first | (with_reducible exact True.intro) | (with_reducible refine Lf.mk ?_ ?_) | (with_reducible intro hb))
          refine CalO ((eVal_eta v)) (hj) ?_
          refine Run (@e) ?_; repeat' (first | (with_reducible exact True.intro) | (with_reducible refine Lf.mk ?_ ?_) | (with_reducible intro hb))
        · have g3 := eq_false k3
          have e : ⟨#[91]⟩ ++ joinB (prts v) ⟨#[44]⟩ ++ ⟨#[93]⟩ = valB v := by rw [valB_eta]; unfold valF; rw [if_neg k1, if_neg k2, if_neg k3]; rfl
          refine Run ((And.intro (And.intro (eVal_eta v) @hlt) (And.intro @g3 @et))) ?_; repeat' (first | (with_reducible exact True.intro) | (with_reducible refine Lf.mk ?_ ?_) | (with_reducible intro hb))
          refine CalO ((eVal_eta v)) (hj) ?_
          refine Run (@e) ?_; repeat' (first | (with_reducible exact True.intro) | (with_reducible refine Lf.mk ?_ ?_) | (with_reducible intro hb))

theorem valText_ok (b : Nat) (x : Obj) (v : Val) (h : okVal (2^20) v) (hz : zVal v ≤ 2^20) (hf : VF v) (rest : List IV) (HF : ∀ n, ok64 n → FnS Tryd.prog 23 [(1, .gl b x)] [iT n] [(1, .gl b x)] (sT (fmtB n))) : FnS Tryd.prog 56 [(1, .gl b x)] [.c (.im (.pt (eVal v ++ rest)))] [(1, .gl b x)] (sT (valB v)) :=
  valText_of b x v h hz hf rest HF fun u hu rest => valText_ok b x u ((okVal_iff.1 h).2.2.2.2 u hu) (Nat.le_trans (zVal_arg hu) hz) (((VF_eta v).1 hf).2 u hu) rest HF
termination_by SizeOf.sizeOf v
decreasing_by exact Val.mem hu
end Go.VC.T
/- Polynomials that are right. -/
namespace Go.VC
open Go
def MonoOk (m : Mono) : Prop := (1 ≤ m.coef ∧ m.coef ≤ 1000000) ∧ m.vars.length ≤ 8 ∧ m.vars.any (fun x => decide (x = ⟨#[]⟩)) = false ∧ SortedS m.vars
noncomputable instance (m : Mono) : Decidable (MonoOk m) := Classical.propDecidable _
/-- Up to place i. -/
def PolyTo (l : List Mono) (i : Nat) : Prop := (∀ m ∈ l.take i, MonoOk m) ∧ ∀ k, (h : k + 1 < l.length) → k + 1 < i → cmpL (l[k]'(by omega)).vars l[k + 1].vars < 0
def PolyOk (l : List Mono) : Prop := PolyTo l l.length ∧ l.length ≤ 200
noncomputable instance (l : List Mono) : Decidable (PolyOk l) := Classical.propDecidable _
theorem polyTo_zero {l : List Mono} : PolyTo l 0 := ⟨fun m hm => by simp at hm, fun k h hk => by omega⟩
theorem polyTo_succ {l : List Mono} {i : Nat} (h : i < l.length) (ht : PolyTo l i) (hm : MonoOk l[i]) (hc : 0 < i → cmpL (l[i - 1]'(by omega)).vars l[i].vars < 0) : PolyTo l (i + 1) := by
  refine ⟨fun m hm' => ?_, fun k hk hki => ?_⟩
  · rw [take_at h, List.mem_append] at hm'
    rcases hm' with h1 | h1
    · exact ht.1 m h1
    · rw [List.mem_singleton] at h1; subst h1; exact hm
  · by_cases e : k + 1 < i
    · exact ht.2 k hk e
    · have e : i = k + 1 := by omega
      subst e
      exact hc (by omega)
theorem polyTo_at {l : List Mono} {i : Nat} (h : i < l.length) (ht : PolyTo l l.length) : MonoOk l[i] ∧ (0 < i → cmpL (l[i - 1]'(by omega)).vars l[i].vars < 0) := by
  refine ⟨ht.1 _ (by rw [List.take_length]; exact List.getElem_mem h), fun hi => ?_⟩
  have h1 := ht.2 (i - 1) (by omega) (by omega)
  have e : i - 1 + 1 = i := by omega
  simp only [e] at h1
  exact h1
theorem polyTo_all {l : List Mono} {i : Nat} (h : l.length ≤ i) (ht : PolyTo l i) : PolyTo l l.length := by
  refine ⟨fun m hm => ht.1 m (by rw [List.take_length] at hm; rw [List.take_of_length_le h]; exact hm), fun k hk hki => ht.2 k hk (by omega)⟩
end Go.VC
namespace Go.VC.T
open Go Go.VC Go.Proofs Go.VC.F
set_option linter.unusedSimpArgs false
set_option linter.unusedVariables false
set_option linter.defProp false
set_option maxRecDepth 100000
set_option maxHeartbeats 2000000
def fc43A24 := (And.intro (And.intro (And.intro (And.intro sz3 (And.intro ag3 zv3)) (And.intro un3 (And.intro sz4 ag4))) (And.intro (And.intro zv4 (And.intro un4 sz9)) (And.intro (And.intro ag9 zv9) (And.intro un9 sz51)))) (And.intro (And.intro (And.intro ag51 (And.intro zv51 sb51)) (And.intro (And.intro un51 el51) (And.intro ap51 sz53))) (And.intro (And.intro ag53 (And.intro zv53 fl53_0)) (And.intro (And.intro fl53_1 pl53) (And.intro okf64 okf65)))))
theorem monoOk_ok (m : Mono) (h : okMono (2^20) m) : FnS Tryd.prog 43 [] [agT (eMono m)] [] (bT (decide (MonoOk m))) := by
  refine FnS.go [0, 1, 2, 21] [] Tryd.func43 rfl (fun kt kz => ?_)
  have fcx := fc43A24
  simp only [Tryd.f43]
  have hv := (okMono_iff.1 h).2.1
  by_cases h1 : m.coef < 1
  · refine Run ((And.intro @eMono_eta @h1)) ?_; repeat' (first | (with_reducible exact True.intro) | (with_reducible refine Lf.mk ?_ ?_) | (with_reducible intro hb))
    rw [decide_eq_false fun hm => by have := hm.1; omega]
  · by_cases h2 : 1000000 < m.coef
    · refine Run ((And.intro @eMono_eta (And.intro @h1 @h2))) ?_; repeat' (first | (with_reducible exact True.intro) | (with_reducible refine Lf.mk ?_ ?_) | (with_reducible intro hb))
      rw [decide_eq_false fun hm => by have := hm.1; omega]
    · by_cases h3 : 8 < m.vars.length
      · have h3z : (8 : Int) < (m.vars.length : Int) := by omega
        refine Run ((And.intro (And.intro @eMono_eta @h1) (And.intro @h2 @h3z))) ?_; repeat' (first | (with_reducible exact True.intro) | (with_reducible refine Lf.mk ?_ ?_) | (with_reducible intro hb))
        rw [decide_eq_false fun hm => by have := hm.2.1; omega]
      · have h3z : ¬ (8 : Int) < (m.vars.length : Int) := by omega
        refine Run ((And.intro (And.intro @eMono_eta @h1) (And.intro @h2 @h3z))) ?_; repeat' (first | (with_reducible exact True.intro) | (with_reducible refine Lf.mk ?_ ?_) | (with_reducible intro hb))
        refine Cal (cast_succ) (slHasS_ok m.vars ⟨#[]⟩ (by omega)) ?_
        refine Run (@eMono_eta) ?_; repeat' (first | (with_reducible exact True.intro) | (with_reducible refine Lf.mk ?_ ?_) | (with_reducible intro hb))
        · rw [decide_eq_false fun hm => by have := hm.2.2.1; rw [hb] at this; cases this]
        · refine Cal (cast_succ) (slSortedS_ok m.vars (by omega)) ?_
          refine Run (cast_succ) ?_; repeat' (first | (with_reducible exact True.intro) | (with_reducible refine Lf.mk ?_ ?_) | (with_reducible intro hb))
          rw [decide_eq_decide.2 (show SortedS m.vars ↔ MonoOk m from ⟨fun hs => ⟨⟨by omega, by omega⟩, by omega, hb, hs⟩, fun hm => hm.2.2.2⟩)]
def fc28A24 := (And.intro (And.intro (And.intro (And.intro (And.intro sz3 ag3) (And.intro zv3 un3)) (And.intro (And.intro sz4 ag4) (And.intro zv4 un4))) (And.intro (And.intro (And.intro sz35 ag35) (And.intro zv35 sb35)) (And.intro (And.intro un35 el35) (And.intro ap35 (And.intro sz37 ag37))))) (And.intro (And.intro (And.intro (And.intro zv37 fl37_0) (And.intro pl37 sz51)) (And.intro (And.intro ag51 zv51) (And.intro sb51 (And.intro un51 el51)))) (And.intro (And.intro (And.intro ap51 sz53) (And.intro ag53 zv53)) (And.intro (And.intro fl53_0 fl53_1) (And.intro pl53 (And.intro okf43 okf44))))))
theorem implIsPoly_ok (l : List Mono) (h : okPoly (2^20) l) : FnS Tryd.prog 28 [] [agT (ePoly l)] [] (bT (decide (PolyOk l))) := by
  refine FnS.go [0, 1, 2, 3, 4, 6, 7, 8, 9, 32] [] Tryd.func28 rfl (fun kt kz => ?_)
  have fcx := fc28A24
  simp only [Tryd.f28]
  have ho := okPoly_iff.1 h
  have hl := ho.1
  refine Run (@ePoly_eta) ?_; repeat' (first | (with_reducible exact True.intro) | (with_reducible refine Lf.mk ?_ ?_) | (with_reducible intro hb))
  refine Trn (α := Nat) [2, 3, 4, 8, 9, 10, 11, 12, 13, 14, 15, 16, 17, 18, 19, 20, 21, 22, 23, 24, 25, 26, 27, 28, 29, 30, 31, 32, 33] (fun i => [(8, iT i)]) (fun i => [(2, .box 37 ((ePoly l).map .im))]) (fun i => i ≤ l.length ∧ PolyTo l i) (fun i => l.length - i) (0) (⟨Nat.zero_le _, polyTo_zero⟩) (@ePoly_eta) ?_; intro lx hI; obtain i := lx; (try simp only [List.nil_append, List.cons_append] at hI ⊢)
  by_cases hlt : lx < l.length
  · have hm := okMono_iff.1 (ho.2 _ (List.getElem_mem hlt))
    have hvl := hm.2.1
    refine Run ((And.intro @ePoly_eta (And.intro @eMono_eta @hlt))) ?_; repeat' (first | (with_reducible exact True.intro) | (with_reducible refine Lf.mk ?_ ?_) | (with_reducible intro hb))
    refine Cal (@eMono_eta) (monoOk_ok l[lx] (ho.2 _ (List.getElem_mem hlt))) ?_
    by_cases hmo : MonoOk l[lx]
    · have hmd := decide_eq_true hmo
      by_cases hz : 0 < lx
      · have hzi : (0 : Int) < (lx : Int) := by omega
        have hl1 : lx - 1 < l.length := by omega
        have hv1 := (okMono_iff.1 (ho.2 _ (List.getElem_mem hl1))).2.1
        refine Run ((And.intro (And.intro @ePoly_eta @eMono_eta) (And.intro @hmd @hzi))) ?_; repeat' (first | (with_reducible exact True.intro) | (with_reducible refine Lf.mk ?_ ?_) | (with_reducible intro hb))
        refine Cal (@eMono_eta) (slicesCompare_ok l[lx - 1].vars l[lx].vars (by omega)) ?_
        refine Run ((And.intro @ePoly_eta @eMono_eta)) ?_; repeat' (first | (with_reducible exact True.intro) | (with_reducible refine Lf.mk ?_ ?_) | (with_reducible intro hb))
        · rw [decide_eq_false fun h => by have := (polyTo_at hlt h.1).2 hz; omega]
        · exact Nxt (@ePoly_eta) (lx + 1) (⟨by omega, polyTo_succ hlt hI.2 hmo fun _ => by omega⟩) (by first | omega | (simp; omega))
      · have hzi : ¬ (0 : Int) < (lx : Int) := by omega
        refine Run ((And.intro (And.intro @ePoly_eta @eMono_eta) (And.intro @hmd @hzi))) ?_; repeat' (first | (with_reducible exact True.intro) | (with_reducible refine Lf.mk ?_ ?_) | (with_reducible intro hb))
        exact Nxt (@ePoly_eta) (lx + 1) (⟨by omega, polyTo_succ hlt hI.2 hmo fun h => absurd h hz⟩) (by first | omega | (simp; omega))
    · have hmd := decide_eq_false hmo
      refine Run ((And.intro @ePoly_eta (And.intro @eMono_eta @hmd))) ?_; repeat' (first | (with_reducible exact True.intro) | (with_reducible refine Lf.mk ?_ ?_) | (with_reducible intro hb))
      rw [decide_eq_false fun h => hmo (polyTo_at hlt h.1).1]
  · have ha := polyTo_all (by omega) hI.2
    have e : decide ((l.length : Int) ≤ 200) = decide (PolyOk l) := decide_eq_decide.2 ⟨fun h => ⟨ha, by omega⟩, fun h => by have := h.2; omega⟩
    refine Run ((And.intro @ePoly_eta (And.intro @hlt @e))) ?_; repeat' (first | (with_reducible exact True.intro) | (with_reducible refine Lf.mk ?_ ?_) | (with_reducible intro hb))
def fc40A24 := (And.intro (And.intro (And.intro (And.intro sz3 (And.intro ag3 zv3)) (And.intro un3 (And.intro sz4 ag4))) (And.intro (And.intro zv4 (And.intro un4 sz9)) (And.intro (And.intro ag9 zv9) (And.intro un9 sz51)))) (And.intro (And.intro (And.intro ag51 (And.intro zv51 sb51)) (And.intro un51 (And.intro el51 ap51))) (And.intro (And.intro sz53 (And.intro ag53 zv53)) (And.intro (And.intro fl53_0 fl53_1) (And.intro pl53 okf60)))))
theorem l29Mono_ok (m : Mono) (h : okMono (2^20) m) : FnS Tryd.prog 40 [] [agT (eMono m)] [] (bT (decide (MonoOk m))) := by
  refine FnS.go [0, 1, 2, 3, 8, 34] [] Tryd.func40 rfl (fun kt kz => ?_)
  have fcx := fc40A24
  simp only [Tryd.f40]
  have hv := (okMono_iff.1 h).2.1
  refine Run (@eMono_eta) ?_; repeat' (first | (with_reducible exact True.intro) | (with_reducible refine Lf.mk ?_ ?_) | (with_reducible intro hb))
  refine Trn (α := Nat) [2, 3, 4, 5, 6, 7, 8, 9, 10, 11, 12, 13, 14, 15, 16, 17, 18, 19, 20, 21, 22, 23, 24, 25, 26, 27, 28, 29, 30, 31, 32, 33, 34] (fun i => [(3, iT i)]) (fun i => [(2, .box 53 ((eMono m).map .im))]) (fun i => i ≤ m.vars.length ∧ (m.vars.take i).any (fun x => decide (x = ⟨#[]⟩)) = false ∧ ∀ k, (h : k + 1 < m.vars.length) → k + 1 < i → sLt m.vars[k + 1] (m.vars[k]'(by omega)) = false) (fun i => m.vars.length - i) (0) (⟨Nat.zero_le _, rfl, fun k h hk => by omega⟩) (@eMono_eta) ?_; intro lx hI; obtain i := lx; (try simp only [List.nil_append, List.cons_append] at hI ⊢)
  by_cases hlt : lx < m.vars.length
  · have hstep : ∀ (h1 : ¬ m.vars[lx] = ⟨#[]⟩) (h2 : 0 < lx → sLt m.vars[lx] (m.vars[lx - 1]'(by omega)) = false), (m.vars.take (lx + 1)).any (fun x => decide (x = ⟨#[]⟩)) = false ∧ ∀ k, (h : k + 1 < m.vars.length) → k + 1 < lx + 1 → sLt m.vars[k + 1] (m.vars[k]'(by omega)) = false := fun h1 h2 => by
      refine ⟨any_take hlt hI.2.1 (by simpa using h1), fun k hk hki => ?_⟩
      by_cases e : k + 1 < lx
      · exact hI.2.2 k hk e
      · have e : lx = k + 1 := by omega
        subst e
        exact h2 (by omega)
    by_cases he : m.vars[lx] = ⟨#[]⟩
    · refine Run ((And.intro (And.intro @eMono_eta @hlt) (And.intro @eS.eq_1 @he))) ?_; repeat' (first | (with_reducible exact True.intro) | (with_reducible refine Lf.mk ?_ ?_) | (with_reducible intro hb))
      rw [decide_eq_false fun hm => by have := any_at (p := fun x => decide (x = ⟨#[]⟩)) hlt (by simpa using he); rw [hm.2.2.1] at this; cases this]
    · by_cases hz : 0 < lx
      · have hzi : (0 : Int) < (lx : Int) := by omega
        have hl1 : lx - 1 < m.vars.length := by omega
        refine Run ((And.intro (And.intro @eMono_eta @hlt) (And.intro @eS.eq_1 (And.intro @he @hzi)))) ?_; repeat' (first | (with_reducible exact True.intro) | (with_reducible refine Lf.mk ?_ ?_) | (with_reducible intro hb))
        · rw [decide_eq_false fun hm => by
            have h1 := hm.2.2.2 (lx - 1) (by omega)
            have e : lx - 1 + 1 = lx := by omega
            simp only [e] at h1
            rw [sLt_tri hb.1 hb.2] at h1; cases h1]
        · exact Nxt (@eMono_eta) (lx + 1) (⟨by omega, hstep he fun _ => by
            rcases hb with h | h
            · exact sLt_asymm h
            · rw [h]; exact sLt_irrefl _⟩) (by first | omega | (simp; omega))
      · have hzi : ¬ (0 : Int) < (lx : Int) := by omega
        refine Run ((And.intro (And.intro @eMono_eta @hlt) (And.intro @eS.eq_1 (And.intro @he @hzi)))) ?_; repeat' (first | (with_reducible exact True.intro) | (with_reducible refine Lf.mk ?_ ?_) | (with_reducible intro hb))
        exact Nxt (@eMono_eta) (lx + 1) (⟨by omega, hstep he fun h => absurd h hz⟩) (by first | omega | (simp; omega))
  · have ha := any_all (by omega) hI.2.1
    have hs : SortedS m.vars := fun k hk => hI.2.2 k hk (by omega)
    have e : decide (MonoOk m) = decide ((1 ≤ m.coef ∧ m.coef ≤ 1000000) ∧ m.vars.length ≤ 8) := decide_eq_decide.2 ⟨fun h => ⟨h.1, h.2.1⟩, fun h => ⟨h.1, h.2, ha, hs⟩⟩
    rw [e]
    refine Run ((And.intro @eMono_eta @hlt)) ?_; repeat' (first | (with_reducible exact True.intro) | (with_reducible refine Lf.mk ?_ ?_) | (with_reducible intro hb))
    refine Cal (cast_succ) (l1In_ok m.coef 1 1000000) ?_
    refine Run (@eMono_eta) ?_; repeat' (first | (with_reducible exact True.intro) | (with_reducible refine Lf.mk ?_ ?_) | (with_reducible intro hb))
    · have e2 : decide ((m.vars.length : Int) ≤ 8) = decide (m.vars.length ≤ 8) := decide_eq_decide.2 (by omega)
      rw [e2]
    · rw [decide_eq_false fun h => h.1]
def fc25A24 := (And.intro (And.intro (And.intro (And.intro (And.intro sz3 ag3) (And.intro zv3 un3)) (And.intro (And.intro sz4 ag4) (And.intro zv4 un4))) (And.intro (And.intro (And.intro sz35 ag35) (And.intro zv35 sb35)) (And.intro (And.intro un35 el35) (And.intro ap35 (And.intro sz37 ag37))))) (And.intro (And.intro (And.intro (And.intro zv37 fl37_0) (And.intro pl37 sz51)) (And.intro (And.intro ag51 zv51) (And.intro sb51 (And.intro un51 el51)))) (And.intro (And.intro (And.intro ap51 sz53) (And.intro ag53 zv53)) (And.intro (And.intro fl53_0 fl53_1) (And.intro pl53 (And.intro okf40 okf41))))))
theorem specIsPoly_ok (l : List Mono) (h : okPoly (2^20) l) : FnS Tryd.prog 25 [] [agT (ePoly l)] [] (bT (decide (PolyOk l))) := by
  refine FnS.go [0, 1, 2, 3, 8, 38] [] Tryd.func25 rfl (fun kt kz => ?_)
  have fcx := fc25A24
  simp only [Tryd.f25]
  have ho := okPoly_iff.1 h
  have hl := ho.1
  refine Run (@ePoly_eta) ?_; repeat' (first | (with_reducible exact True.intro) | (with_reducible refine Lf.mk ?_ ?_) | (with_reducible intro hb))
  refine Trn (α := Nat) [2, 3, 4, 5, 6, 7, 8, 9, 10, 11, 12, 13, 14, 15, 16, 17, 18, 19, 20, 21, 22, 23, 24, 25, 26, 27, 28, 29, 30, 31, 32, 33, 34, 35, 36, 37, 38] (fun i => [(3, iT i)]) (fun i => [(2, .box 37 ((ePoly l).map .im))]) (fun i => i ≤ l.length ∧ PolyTo l i) (fun i => l.length - i) (0) (⟨Nat.zero_le _, polyTo_zero⟩) (@ePoly_eta) ?_; intro lx hI; obtain i := lx; (try simp only [List.nil_append, List.cons_append] at hI ⊢)
  by_cases hlt : lx < l.length
  · have hm := okMono_iff.1 (ho.2 _ (List.getElem_mem hlt))
    have hvl := hm.2.1
    refine Run ((And.intro @ePoly_eta (And.intro @eMono_eta @hlt))) ?_; repeat' (first | (with_reducible exact True.intro) | (with_reducible refine Lf.mk ?_ ?_) | (with_reducible intro hb))
    refine Cal (@eMono_eta) (l29Mono_ok l[lx] (ho.2 _ (List.getElem_mem hlt))) ?_
    by_cases hmo : MonoOk l[lx]
    · have hmd := decide_eq_true hmo
      by_cases hz : 0 < lx
      · have hzi : (0 : Int) < (lx : Int) := by omega
        have hl1 : lx - 1 < l.length := by omega
        have hv1 := (okMono_iff.1 (ho.2 _ (List.getElem_mem hl1))).2.1
        refine Run ((And.intro (And.intro @ePoly_eta @eMono_eta) (And.intro @hmd @hzi))) ?_; repeat' (first | (with_reducible exact True.intro) | (with_reducible refine Lf.mk ?_ ?_) | (with_reducible intro hb))
        refine Cal (@eMono_eta) (l5Labels_ok l[lx - 1].vars l[lx].vars (by omega) (by omega)) ?_
        refine Run ((And.intro @ePoly_eta @eMono_eta)) ?_; repeat' (first | (with_reducible exact True.intro) | (with_reducible refine Lf.mk ?_ ?_) | (with_reducible intro hb))
        · rw [decide_eq_false fun h => by have := (polyTo_at hlt h.1).2 hz; omega]
        · exact Nxt (@ePoly_eta) (lx + 1) (⟨by omega, polyTo_succ hlt hI.2 hmo fun _ => by omega⟩) (by first | omega | (simp; omega))
      · have hzi : ¬ (0 : Int) < (lx : Int) := by omega
        refine Run ((And.intro (And.intro @ePoly_eta @eMono_eta) (And.intro @hmd @hzi))) ?_; repeat' (first | (with_reducible exact True.intro) | (with_reducible refine Lf.mk ?_ ?_) | (with_reducible intro hb))
        exact Nxt (@ePoly_eta) (lx + 1) (⟨by omega, polyTo_succ hlt hI.2 hmo fun h => absurd h hz⟩) (by first | omega | (simp; omega))
    · have hmd := decide_eq_false hmo
      refine Run ((And.intro @ePoly_eta (And.intro @eMono_eta @hmd))) ?_; repeat' (first | (with_reducible exact True.intro) | (with_reducible refine Lf.mk ?_ ?_) | (with_reducible intro hb))
      rw [decide_eq_false fun h => hmo (polyTo_at hlt h.1).1]
  · have ha := polyTo_all (by omega) hI.2
    have e : decide ((l.length : Int) ≤ 200) = decide (PolyOk l) := decide_eq_decide.2 ⟨fun h => ⟨ha, by omega⟩, fun h => by have := h.2; omega⟩
    refine Run ((And.intro @ePoly_eta (And.intro @hlt @e))) ?_; repeat' (first | (with_reducible exact True.intro) | (with_reducible refine Lf.mk ?_ ?_) | (with_reducible intro hb))

end Go.VC.T
/- Polynomials as texts: the reference, and the program under the library's table. -/
namespace Go.VC
open Go
/-- The factors of a summand, as texts. -/
def facs (m : Mono) : List ByteArray := if m.coef = 1 ∧ ¬ m.vars.length = 0 then m.vars else fmtB m.coef :: m.vars
def monoB (m : Mono) : ByteArray := joinB (facs m) ⟨#[42]⟩
noncomputable def polyB (l : List Mono) : ByteArray := if PolyOk l then if l.length = 0 then ⟨#[48]⟩ else joinB (l.map monoB) ⟨#[43]⟩ else ⟨#[]⟩
theorem facs_one {m : Mono} (h : m.coef = 1) (h2 : ¬ m.vars.length = 0) : facs m = m.vars := if_pos ⟨h, h2⟩
theorem facs_two {m : Mono} (h : ¬ (m.coef = 1 ∧ ¬ m.vars.length = 0)) : facs m = fmtB m.coef :: m.vars := if_neg h
theorem facs_len {m : Mono} : (facs m).length ≤ m.vars.length + 1 := by unfold facs; split <;> simp
theorem facs_size {m : Mono} (h : okMono (2^20) m) {x : ByteArray} (hx : x ∈ facs m) : x.size ≤ 2^20 := by
  have ho := okMono_iff.1 h
  have hf := fmtB_size (n := m.coef) ho.1
  have hv : ∀ y ∈ m.vars, y.size ≤ 2^20 := fun y hy => ho.2.2 y hy
  unfold facs at hx
  split at hx
  · exact hv x hx
  · rcases List.mem_cons.1 hx with rfl | hx
    · omega
    · exact hv x hx
theorem monoB_size {m : Mono} (h : okMono (2^20) m) (h8 : m.vars.length ≤ 8) : (monoB m).size ≤ 2^24 := by
  have h1 := joinB_le (sep := ⟨#[42]⟩) (fun x hx => facs_size h hx)
  have h2 := facs_len (m := m)
  have e : (ByteArray.mk #[42]).size = 1 := rfl
  rw [e] at h1
  have h3 : (facs m).length * (2^20 + 1) ≤ 9 * (2^20 + 1) := Nat.mul_le_mul_right _ (by omega)
  unfold monoB
  omega
end Go.VC
namespace Go.VC.T
open Go Go.VC Go.Proofs Go.VC.F
set_option linter.unusedSimpArgs false
set_option linter.unusedVariables false
set_option linter.defProp false
set_option maxRecDepth 100000
set_option maxHeartbeats 2000000
def fc13A51 := (And.intro (And.intro (And.intro (And.intro (And.intro sz3 ag3) (And.intro zv3 (And.intro un3 sz4))) (And.intro (And.intro ag4 zv4) (And.intro un4 (And.intro sz9 ag9)))) (And.intro (And.intro (And.intro zv9 un9) (And.intro sz35 (And.intro ag35 zv35))) (And.intro (And.intro sb35 un35) (And.intro el35 (And.intro ap35 sz37))))) (And.intro (And.intro (And.intro (And.intro ag37 zv37) (And.intro fl37_0 (And.intro pl37 sz51))) (And.intro (And.intro ag51 zv51) (And.intro sb51 (And.intro un51 el51)))) (And.intro (And.intro (And.intro ap51 sz53) (And.intro ag53 (And.intro zv53 fl53_0))) (And.intro (And.intro fl53_1 pl53) (And.intro okf22 (And.intro okf25 okf26))))))
theorem specPT_ok (l : List Mono) (h : okPoly (2^20) l) : FnS Tryd.prog 13 [] [agT (ePoly l)] [] (sT (polyB l)) := by
  refine FnS.go [0, 1, 2, 3, 4, 5, 8, 14, 36, 54] [] Tryd.func13 rfl (fun kt kz => ?_)
  have fcx := fc13A51
  simp only [Tryd.f13]
  have ho := okPoly_iff.1 h
  refine Run (@ePoly_eta) ?_; repeat' (first | (with_reducible exact True.intro) | (with_reducible refine Lf.mk ?_ ?_) | (with_reducible intro hb))
  refine Cal (@ePoly_eta) (specIsPoly_ok l h) ?_
  by_cases hp : PolyOk l
  · have hpd := decide_eq_true hp
    have hm8 : ∀ m ∈ l, m.vars.length ≤ 8 := fun m hm => (hp.1.1 m (by rw [List.take_length]; exact hm)).2.1
    have hl200 := hp.2
    refine Run ((And.intro @ePoly_eta @hpd)) ?_; repeat' (first | (with_reducible exact True.intro) | (with_reducible refine Lf.mk ?_ ?_) | (with_reducible intro hb))
    refine Trn (α := Nat) [3, 4, 5, 10, 11, 12, 13, 14, 15, 16, 17, 18, 19, 20, 21, 22, 23, 24, 25, 26, 27, 28, 29, 30, 31, 32, 33, 34, 35, 36, 37, 38, 39, 40, 41, 42, 43, 44, 45, 46, 47, 48, 49, 50, 51] (fun i => [(4, iT i), (3, .c (.os 18 i))]) (fun i => [(2, .box 37 ((ePoly l).map .im)), (18, .vec 9 1 i (((l.take i).map monoB).flatMap eS) true)]) (fun i => i ≤ l.length) (fun i => l.length - i) (0) (Nat.zero_le _) (@ePoly_eta) ?_; intro lx hI; obtain i := lx; (try simp only [List.nil_append, List.cons_append] at hI ⊢)
    by_cases hlt : lx < l.length
    · have hom := ho.2 _ (List.getElem_mem hlt)
      have hm := okMono_iff.1 hom
      have hv8 := hm8 _ (List.getElem_mem hlt)
      have hfl : (l[lx].vars.flatMap eS).length = l[lx].vars.length := by rw [flat_len']; omega
      have hjz : jz ⟨#[42]⟩ (facs l[lx]) ≤ 2^46 := by
        have h1 := jz_le (sep := ⟨#[42]⟩) (fun x hx => facs_size hom hx)
        have h2 := facs_len (m := l[lx])
        have e : (ByteArray.mk #[42]).size = 1 := rfl
        rw [e] at h1
        have h3 : (facs l[lx]).length * (2^20 + 1) ≤ 9 * (2^20 + 1) := Nat.mul_le_mul_right _ (by omega)
        omega
      have en : ((l.take (lx + 1)).map monoB).flatMap eS = ((l.take lx).map monoB).flatMap eS ++ [.sc (.string (monoB l[lx]))] := by rw [take_at hlt, List.map_append, List.flatMap_append]; rfl
      by_cases h1 : l[lx].coef = 1 ∧ ¬ l[lx].vars.length = 0
      · have hf := facs_one h1.1 h1.2
        have hj := specJoin_ok (facs l[lx]) ⟨#[42]⟩ (by rw [hf]; omega) hjz
        have hz : ¬ (l[lx].vars.length : Int) = 0 := by omega
        rw [hf] at hj
        have emb : joinB l[lx].vars ⟨#[42]⟩ = monoB l[lx] := by unfold monoB; rw [hf]
        refine Run ((And.intro (And.intro @ePoly_eta (And.intro @eMono_eta @hlt)) (And.intro (And.intro @hfl @allSc_eS) (And.intro (h1.1) @hz)))) ?_; repeat' (first | (with_reducible exact True.intro) | (with_reducible refine Lf.mk ?_ ?_) | (with_reducible intro hb))
        refine Cal ((And.intro @ePoly_eta @eMono_eta)) (hj) ?_
        refine Run ((And.intro @ePoly_eta (And.intro @eMono_eta @emb))) ?_; repeat' (first | (with_reducible exact True.intro) | (with_reducible refine Lf.mk ?_ ?_) | (with_reducible intro hb))
        exact Nxt ((And.intro @en @ePoly_eta)) (lx + 1) (by omega) (by first | omega | (simp; omega))
      · have hf := facs_two h1
        have hj := specJoin_ok (facs l[lx]) ⟨#[42]⟩ (by rw [hf, List.length_cons]; omega) hjz
        rw [hf] at hj
        have emb : joinB (fmtB l[lx].coef :: l[lx].vars) ⟨#[42]⟩ = monoB l[lx] := by unfold monoB; rw [hf]
        have hfc : (fmtB l[lx].coef :: l[lx].vars).flatMap eS = .sc (.string (fmtB l[lx].coef)) :: l[lx].vars.flatMap eS := rfl
        have hln : (fmtB l[lx].coef :: l[lx].vars).length = 1 + l[lx].vars.length := by simp; omega
        have hsl : slT eS (fmtB l[lx].coef :: l[lx].vars) = .c (.im (.sl (1 + l[lx].vars.length) (.sc (.string (fmtB l[lx].coef)) :: l[lx].vars.flatMap eS))) := by rw [← hln]; rfl
        rw [hsl] at hj
        by_cases hc : l[lx].coef = 1
        · have hz : (l[lx].vars.length : Int) = 0 := by have : l[lx].vars.length = 0 := Classical.byContradiction fun h => h1 ⟨hc, h⟩; omega
          have hc64 : ok64 1 := by rw [← hc]; exact hm.1
          rw [hc] at hj emb
          refine Run ((And.intro (And.intro @ePoly_eta (And.intro @eMono_eta @hlt)) (And.intro (And.intro @hfl @allSc_eS) (And.intro @hc @hz)))) ?_; repeat' (first | (with_reducible exact True.intro) | (with_reducible refine Lf.mk ?_ ?_) | (with_reducible intro hb))
          refine Cal ((And.intro (And.intro @ePoly_eta @eMono_eta) (And.intro @hc (And.intro @hfl @allSc_eS)))) (specFmt_ok 1 hc64) ?_
          refine Run ((And.intro (And.intro @ePoly_eta @eMono_eta) (And.intro @hfl (And.intro @allSc_eS @hc)))) ?_; repeat' (first | (with_reducible exact True.intro) | (with_reducible refine Lf.mk ?_ ?_) | (with_reducible intro hb))
          refine Cal ((And.intro @ePoly_eta @eMono_eta)) (hj) ?_
          refine Run ((And.intro @ePoly_eta (And.intro @eMono_eta @emb))) ?_; repeat' (first | (with_reducible exact True.intro) | (with_reducible refine Lf.mk ?_ ?_) | (with_reducible intro hb))
          exact Nxt ((And.intro @en @ePoly_eta)) (lx + 1) (by omega) (by first | omega | (simp; omega))
        · refine Run ((And.intro (And.intro @ePoly_eta (And.intro @eMono_eta @hlt)) (And.intro @hfl (And.intro @allSc_eS @hc)))) ?_; repeat' (first | (with_reducible exact True.intro) | (with_reducible refine Lf.mk ?_ ?_) | (with_reducible intro hb))
          refine Cal ((And.intro (And.intro @ePoly_eta @eMono_eta) (And.intro @hfl @allSc_eS))) (specFmt_ok l[lx].coef hm.1) ?_
          refine Run ((And.intro (And.intro @ePoly_eta @eMono_eta) (And.intro @hfl @allSc_eS))) ?_; repeat' (first | (with_reducible exact True.intro) | (with_reducible refine Lf.mk ?_ ?_) | (with_reducible intro hb))
          refine Cal ((And.intro @ePoly_eta @eMono_eta)) (hj) ?_
          refine Run ((And.intro @ePoly_eta (And.intro @eMono_eta @emb))) ?_; repeat' (first | (with_reducible exact True.intro) | (with_reducible refine Lf.mk ?_ ?_) | (with_reducible intro hb))
          exact Nxt ((And.intro @en @ePoly_eta)) (lx + 1) (by omega) (by first | omega | (simp; omega))
    · have et : l.take lx = l := List.take_of_length_le (by omega)
      have hlx : lx = l.length := by omega
      by_cases h0 : l.length = 0
      · have e : polyB l = ⟨#[48]⟩ := by unfold polyB; rw [if_pos hp, if_pos h0]
        have hz : (lx : Int) = 0 := by omega
        have hz2 : ((0 : Int) < (l.length : Int)) = False := eq_false (by omega)
        refine Run ((And.intro (And.intro @ePoly_eta @hlt) (And.intro @hz (And.intro @hz2 @e)))) ?_; repeat' (first | (with_reducible exact True.intro) | (with_reducible refine Lf.mk ?_ ?_) | (with_reducible intro hb))
      · have e : polyB l = joinB (l.map monoB) ⟨#[43]⟩ := by unfold polyB; rw [if_pos hp, if_neg h0]
        have hz : ¬ (lx : Int) = 0 := by omega
        have hj := specJoin_ok (l.map monoB) ⟨#[43]⟩ (by rw [List.length_map]; omega) (by
          have h1 := jz_le (sep := ⟨#[43]⟩) (xs := l.map monoB) (b := 2^24) (fun x hx => by
            obtain ⟨m, hm, rfl⟩ := List.mem_map.1 hx
            exact monoB_size (ho.2 m hm) (hm8 m hm))
          have e : (ByteArray.mk #[43]).size = 1 := rfl
          rw [e, List.length_map] at h1
          have h3 : l.length * (2^24 + 1) ≤ 200 * (2^24 + 1) := Nat.mul_le_mul_right _ hl200
          omega)
        have hsl : slT eS (l.map monoB) = .c (.im (.sl lx ((l.map monoB).flatMap eS))) := by rw [hlx, show l.length = (l.map monoB).length by rw [List.length_map]]; rfl
        rw [hsl] at hj
        refine Run ((And.intro (And.intro @ePoly_eta @hlt) (And.intro @hz @et))) ?_; repeat' (first | (with_reducible exact True.intro) | (with_reducible refine Lf.mk ?_ ?_) | (with_reducible intro hb))
        refine Cal (@ePoly_eta) (hj) ?_
        refine Run ((And.intro @ePoly_eta @e)) ?_; repeat' (first | (with_reducible exact True.intro) | (with_reducible refine Lf.mk ?_ ?_) | (with_reducible intro hb))
  · have hpd := decide_eq_false hp
    have e : polyB l = ⟨#[]⟩ := if_neg hp
    refine Run ((And.intro @ePoly_eta (And.intro @hpd @e))) ?_; repeat' (first | (with_reducible exact True.intro) | (with_reducible refine Lf.mk ?_ ?_) | (with_reducible intro hb))

end Go.VC.T
/- Polynomials as texts: the program under the library's table; the law. -/
namespace Go.VC.T
open Go Go.VC Go.Proofs Go.VC.F
set_option linter.unusedSimpArgs false
set_option linter.unusedVariables false
set_option linter.defProp false
set_option maxRecDepth 100000
set_option maxHeartbeats 2000000
def fc15A52 := (And.intro (And.intro (And.intro (And.intro (And.intro sz3 ag3) (And.intro zv3 (And.intro un3 sz4))) (And.intro (And.intro ag4 zv4) (And.intro un4 (And.intro sz9 ag9)))) (And.intro (And.intro (And.intro zv9 un9) (And.intro sz35 (And.intro ag35 zv35))) (And.intro (And.intro sb35 (And.intro un35 el35)) (And.intro ap35 (And.intro sz37 ag37))))) (And.intro (And.intro (And.intro (And.intro zv37 fl37_0) (And.intro pl37 (And.intro sz51 ag51))) (And.intro (And.intro zv51 sb51) (And.intro un51 (And.intro el51 ap51)))) (And.intro (And.intro (And.intro sz53 ag53) (And.intro zv53 (And.intro fl53_0 fl53_1))) (And.intro (And.intro pl53 (And.intro okf23 okf28)) (And.intro okf29 (And.intro okf30 okf31))))))
theorem implPT_of (b : Nat) (x : Obj) (l : List Mono) (h : okPoly (2^20) l) (H : ∀ n, ok64 n → FnS Tryd.prog 23 [(1, .gl b x)] [iT n] [(1, .gl b x)] (sT (fmtB n))) : FnS Tryd.prog 15 [(1, .gl b x)] [agT (ePoly l)] [(1, .gl b x)] (sT (polyB l)) := by
  refine FnS.go [0, 1, 2, 3, 5, 6, 9, 12, 13, 14, 15, 29, 44] [] Tryd.func15 rfl (fun kt kz => ?_)
  have fcx := fc15A52
  simp only [Tryd.f15]
  have ho := okPoly_iff.1 h
  refine Run (@ePoly_eta) ?_; repeat' (first | (with_reducible exact True.intro) | (with_reducible refine Lf.mk ?_ ?_) | (with_reducible intro hb))
  refine Cal (@ePoly_eta) (implIsPoly_ok l h) ?_
  by_cases hp : PolyOk l
  · have hpd := decide_eq_true hp
    have hm8 : ∀ m ∈ l, m.vars.length ≤ 8 := fun m hm => (hp.1.1 m (by rw [List.take_length]; exact hm)).2.1
    have hl200 := hp.2
    refine Run ((And.intro @ePoly_eta @hpd)) ?_; repeat' (first | (with_reducible exact True.intro) | (with_reducible refine Lf.mk ?_ ?_) | (with_reducible intro hb))
    refine Trn (α := Nat) [3, 5, 6, 14, 15, 16, 17, 18, 19, 20, 21, 22, 23, 24, 25, 26, 27, 28, 29, 30, 31, 32, 33, 34, 35, 36, 37, 38, 39, 40, 41] (fun i => [(14, iT i), (3, .c (.os 20 i))]) (fun i => [(1, .gl b x), (2, .box 37 ((ePoly l).map .im)), (20, .vec 9 1 i (((l.take i).map monoB).flatMap eS) true)]) (fun i => i ≤ l.length) (fun i => l.length - i) (0) (Nat.zero_le _) (@ePoly_eta) ?_; intro lx hI; obtain i := lx; (try simp only [List.nil_append, List.cons_append] at hI ⊢)
    by_cases hlt : lx < l.length
    · have hom := ho.2 _ (List.getElem_mem hlt)
      have hm := okMono_iff.1 hom
      have hv8 := hm8 _ (List.getElem_mem hlt)
      have hv20 : l[lx].vars.length ≤ 2^20 := by omega
      have hms := monoB_size hom hv8
      have en : ((l.take (lx + 1)).map monoB).flatMap eS = ((l.take lx).map monoB).flatMap eS ++ [.sc (.string (monoB l[lx]))] := by rw [take_at hlt, List.map_append, List.flatMap_append]; rfl
      have hcl := slCloneS_q l[lx].vars hv20 2000
      by_cases h1 : l[lx].coef = 1 ∧ ¬ l[lx].vars.length = 0
      · have hf := facs_one h1.1 h1.2
        have emb : joinB l[lx].vars ⟨#[42]⟩ = monoB l[lx] := by unfold monoB; rw [hf]
        have hj := sjoin_q l[lx].vars ⟨#[42]⟩ (by omega) (by rw [emb]; omega) 2000
        have hz : ¬ (l[lx].vars.length : Int) = 0 := by omega
        refine Run ((And.intro @ePoly_eta (And.intro @eMono_eta @hlt))) ?_; repeat' (first | (with_reducible exact True.intro) | (with_reducible refine Lf.mk ?_ ?_) | (with_reducible intro hb))
        refine CalI (@eMono_eta) (hcl) ?_
        refine Run ((And.intro (And.intro @ePoly_eta @eMono_eta) (And.intro (h1.1) @hz))) ?_; repeat' (first | (with_reducible exact True.intro) | (with_reducible refine Lf.mk ?_ ?_) | (with_reducible intro hb))
        refine CalO (@eMono_eta) (hj) ?_
        refine Run ((And.intro @ePoly_eta (And.intro @eMono_eta @emb))) ?_; repeat' (first | (with_reducible exact True.intro) | (with_reducible refine Lf.mk ?_ ?_) | (with_reducible intro hb))
        exact Nxt ((And.intro @en @ePoly_eta)) (lx + 1) (by omega) (by first | omega | (simp; omega))
      · have hf := facs_two h1
        have emb : joinB (fmtB l[lx].coef :: l[lx].vars) ⟨#[42]⟩ = monoB l[lx] := by unfold monoB; rw [hf]
        have hj : FnS Tryd.prog 31 [(2000, .vec 9 1 (l[lx].vars.length + 1) ((fmtB l[lx].coef :: l[lx].vars).flatMap eS) true)] [.c (.os 2000 (l[lx].vars.length + 1)), sT ⟨#[42]⟩] [(2000, .vec 9 1 (l[lx].vars.length + 1) ((fmtB l[lx].coef :: l[lx].vars).flatMap eS) true)] (sT (joinB (fmtB l[lx].coef :: l[lx].vars) ⟨#[42]⟩)) :=
          sjoin_q (fmtB l[lx].coef :: l[lx].vars) ⟨#[42]⟩ (by rw [List.length_cons]; omega) (by rw [emb]; omega) 2000
        have hi := insert0_q l[lx].vars (fmtB l[lx].coef) hv20 2000 68 (by decide)
        by_cases hc : l[lx].coef = 1
        · have hz : (l[lx].vars.length : Int) = 0 := by have : l[lx].vars.length = 0 := Classical.byContradiction fun h => h1 ⟨hc, h⟩; omega
          have hc64 : ok64 1 := by rw [← hc]; exact hm.1
          rw [hc] at hj emb hi
          refine Run ((And.intro @ePoly_eta (And.intro @eMono_eta @hlt))) ?_; repeat' (first | (with_reducible exact True.intro) | (with_reducible refine Lf.mk ?_ ?_) | (with_reducible intro hb))
          refine CalI (@eMono_eta) (hcl) ?_
          refine Run ((And.intro (And.intro @ePoly_eta @eMono_eta) (And.intro @hc @hz))) ?_; repeat' (first | (with_reducible exact True.intro) | (with_reducible refine Lf.mk ?_ ?_) | (with_reducible intro hb))
          refine CalO ((And.intro @eMono_eta @hc)) (H 1 hc64) ?_
          refine Run ((And.intro @ePoly_eta (And.intro @eMono_eta @hc))) ?_; repeat' (first | (with_reducible exact True.intro) | (with_reducible refine Lf.mk ?_ ?_) | (with_reducible intro hb))
          refine CalO ((And.intro @eMono_eta @hc)) (hi) ?_
          refine Run ((And.intro @ePoly_eta (And.intro @eMono_eta @hc))) ?_; repeat' (first | (with_reducible exact True.intro) | (with_reducible refine Lf.mk ?_ ?_) | (with_reducible intro hb))
          refine CalO ((And.intro @eMono_eta @hc)) (hj) ?_
          refine Run ((And.intro @ePoly_eta (And.intro @eMono_eta @emb))) ?_; repeat' (first | (with_reducible exact True.intro) | (with_reducible refine Lf.mk ?_ ?_) | (with_reducible intro hb))
          exact Nxt ((And.intro @en @ePoly_eta)) (lx + 1) (by omega) (by first | omega | (simp; omega))
        · refine Run ((And.intro @ePoly_eta (And.intro @eMono_eta @hlt))) ?_; repeat' (first | (with_reducible exact True.intro) | (with_reducible refine Lf.mk ?_ ?_) | (with_reducible intro hb))
          refine CalI (@eMono_eta) (hcl) ?_
          refine Run ((And.intro @ePoly_eta (And.intro @eMono_eta @hc))) ?_; repeat' (first | (with_reducible exact True.intro) | (with_reducible refine Lf.mk ?_ ?_) | (with_reducible intro hb))
          refine CalO (@eMono_eta) (H l[lx].coef hm.1) ?_
          refine Run ((And.intro @ePoly_eta @eMono_eta)) ?_; repeat' (first | (with_reducible exact True.intro) | (with_reducible refine Lf.mk ?_ ?_) | (with_reducible intro hb))
          refine CalO (@eMono_eta) (hi) ?_
          refine Run ((And.intro @ePoly_eta @eMono_eta)) ?_; repeat' (first | (with_reducible exact True.intro) | (with_reducible refine Lf.mk ?_ ?_) | (with_reducible intro hb))
          refine CalO (@eMono_eta) (hj) ?_
          refine Run ((And.intro @ePoly_eta (And.intro @eMono_eta @emb))) ?_; repeat' (first | (with_reducible exact True.intro) | (with_reducible refine Lf.mk ?_ ?_) | (with_reducible intro hb))
          exact Nxt ((And.intro @en @ePoly_eta)) (lx + 1) (by omega) (by first | omega | (simp; omega))
    · have et : l.take lx = l := List.take_of_length_le (by omega)
      have hlx : lx = l.length := by omega
      by_cases h0 : l.length = 0
      · have e : polyB l = ⟨#[48]⟩ := by unfold polyB; rw [if_pos hp, if_pos h0]
        have hz : (lx : Int) = 0 := by omega
        have hz2 : ((0 : Int) < (l.length : Int)) = False := eq_false (by omega)
        refine Run ((And.intro (And.intro @ePoly_eta @hlt) (And.intro @hz (And.intro @hz2 @e)))) ?_; repeat' (first | (with_reducible exact True.intro) | (with_reducible refine Lf.mk ?_ ?_) | (with_reducible intro hb))
      · have e : polyB l = joinB (l.map monoB) ⟨#[43]⟩ := by unfold polyB; rw [if_pos hp, if_neg h0]
        have hz : ¬ (lx : Int) = 0 := by omega
        have hjs : (joinB (l.map monoB) ⟨#[43]⟩).size ≤ 2^46 := by
          have h1 := joinB_le (sep := ⟨#[43]⟩) (xs := l.map monoB) (b := 2^24) (fun x hx => by
            obtain ⟨m, hm, rfl⟩ := List.mem_map.1 hx
            exact monoB_size (ho.2 m hm) (hm8 m hm))
          have e : (ByteArray.mk #[43]).size = 1 := rfl
          rw [e, List.length_map] at h1
          have h3 : l.length * (2^24 + 1) ≤ 200 * (2^24 + 1) := Nat.mul_le_mul_right _ hl200
          omega
        have hj := sjoin_q (l.map monoB) ⟨#[43]⟩ (by rw [List.length_map]; omega) hjs 20
        rw [List.length_map, ← hlx] at hj
        refine Run ((And.intro (And.intro @ePoly_eta @hlt) (And.intro @hz @et))) ?_; repeat' (first | (with_reducible exact True.intro) | (with_reducible refine Lf.mk ?_ ?_) | (with_reducible intro hb))
        refine CalO (@ePoly_eta) (hj) ?_
        refine Run ((And.intro @ePoly_eta @e)) ?_; repeat' (first | (with_reducible exact True.intro) | (with_reducible refine Lf.mk ?_ ?_) | (with_reducible intro hb))
  · have hpd := decide_eq_false hp
    have e : polyB l = ⟨#[]⟩ := if_neg hp
    refine Run ((And.intro @ePoly_eta (And.intro @hpd @e))) ?_; repeat' (first | (with_reducible exact True.intro) | (with_reducible refine Lf.mk ?_ ?_) | (with_reducible intro hb))

end Go.VC.T
/- Data (Value): how they are measured, copied and compared. -/
namespace Go.VC.T
open Go Go.VC Go.Proofs Go.VC.F
set_option linter.unusedSimpArgs false
set_option linter.unusedVariables false
set_option linter.defProp false
set_option maxRecDepth 100000
set_option maxHeartbeats 2000000
def fc51SValue := (And.intro (And.intro (And.intro (And.intro (And.intro sz3 ag3) (And.intro zv3 un3)) (And.intro (And.intro sz4 ag4) (And.intro zv4 un4))) (And.intro (And.intro (And.intro sz51 ag51) (And.intro zv51 sb51)) (And.intro (And.intro un51 el51) (And.intro ap51 sz60)))) (And.intro (And.intro (And.intro (And.intro ag60 zv60) (And.intro sb60 un60)) (And.intro (And.intro el60 ap60) (And.intro sz62 ag62))) (And.intro (And.intro (And.intro zv62 fl62_0) (And.intro fl62_1 fl62_2)) (And.intro (And.intro fl62_3 pl62) (And.intro okf59 okf71)))))
theorem szValue_of (t : Val) (h : okVal (2^48) t) (H0 : ∀ left : Int, 0 ≤ left ∧ left ≤ 2^20 → FnP Tryd.prog 71 [slT eVal t.args, iT left] (iT (szR (zL zVal t.args) left))) (left : Int) (hl : 0 ≤ left ∧ left ≤ 2^20) : FnS Tryd.prog 51 [] [agT (eVal t), iT left] [] (iT (szR (zVal t) left)) := by
  refine FnS.go [0, 1, 2, 4, 10, 16] [] Tryd.func51 rfl (fun kt kz => ?_)
  have fcx := fc51SValue
  simp only [Tryd.f51]
  have ho := okVal_iff.1 h
  refine Run ((And.intro @eVal_eta @szR_add)) ?_; repeat' (first | (with_reducible exact True.intro) | (with_reducible refine Lf.mk ?_ ?_) | (with_reducible intro hb))
  refine Cal ((And.intro @eVal_eta @szR_add)) (szStringS_ok _ ho.2.2.1 _ hl) ?_
  have hz := szR_le (n := zSL t.labels) hl.1
  refine Run ((And.intro @eVal_eta @szR_add)) ?_; repeat' (first | (with_reducible exact True.intro) | (with_reducible refine Lf.mk ?_ ?_) | (with_reducible intro hb))
  · congr 4; have s1 := szR_spec (zSL t.labels) left; have s2 := szR_spec (zVal t) left; rw [zVal_eta] at s2 ⊢; omega
  · skip
    refine Cal ((And.intro @eVal_eta @szR_add)) (H0 _ ⟨(by assumption), by have := szR_le (n := zSL t.labels) hl.1; omega⟩) ?_
    have hz := szR_le (n := zSL t.labels + zL zVal t.args) hl.1
    refine Run ((And.intro @eVal_eta @szR_add)) ?_; repeat' (first | (with_reducible exact True.intro) | (with_reducible refine Lf.mk ?_ ?_) | (with_reducible intro hb))
    · congr 4; have s1 := szR_spec (zSL t.labels + zL zVal t.args) left; have s2 := szR_spec (zVal t) left; rw [zVal_eta] at s2 ⊢; omega
    · skip
      rw [zVal_eta]
def fc71SValue := (And.intro (And.intro (And.intro (And.intro sz3 (And.intro ag3 zv3)) (And.intro un3 (And.intro sz4 ag4))) (And.intro (And.intro zv4 (And.intro un4 sz60)) (And.intro ag60 (And.intro zv60 sb60)))) (And.intro (And.intro (And.intro un60 (And.intro el60 ap60)) (And.intro sz62 (And.intro ag62 zv62))) (And.intro (And.intro fl62_0 (And.intro fl62_1 fl62_2)) (And.intro (And.intro fl62_3 pl62) (And.intro okf51 sz51)))))
theorem szValueS_of (xs : List Val) (hx : okLs (2^48) okVal xs) (H : ∀ t ∈ xs, ∀ left : Int, 0 ≤ left ∧ left ≤ 2^20 → FnP Tryd.prog 51 [agT (eVal t), iT left] (iT (szR (zVal t) left))) (left : Int) (hl : 0 ≤ left ∧ left ≤ 2^20) : FnS Tryd.prog 71 [] [slT eVal xs, iT left] [] (iT (szR (zL zVal xs) left)) := by
  refine FnS.go [0, 1, 4, 5, 11, 15, 25] [] Tryd.func71 rfl (fun kt kz => ?_)
  have fcx := fc71SValue
  simp only [Tryd.f71]
  have hx1 := hx.1
  refine Run (cast_succ) ?_; repeat' (first | (with_reducible exact True.intro) | (with_reducible refine Lf.mk ?_ ?_) | (with_reducible intro hb))
  · simp only [szR_nil hb zL_len]
  · rw [szR_sub hb]
    have hb2 := szR_sub hb ▸ hb
    refine Trn (α := Nat) [1, 4, 5, 12, 13, 14, 15, 16, 17, 18, 19, 20, 21, 22, 23, 24, 25] (fun i => [(5, iT i), (1, iT (szR (zT zVal xs i) left))]) (fun i => []) (fun i => i ≤ xs.length ∧ 0 ≤ szR (zT zVal xs i) left) (fun i => xs.length - i) (0) (⟨Nat.zero_le _, by rw [zT_zero]; exact hb2⟩) ((zT_zero (z := zVal) (l := xs))) ?_; intro lx hI; obtain i := lx; (try simp only [List.nil_append, List.cons_append] at hI ⊢)
    have hz := szR_le (n := zT zVal xs lx) hl.1
    by_cases hlt : lx < xs.length
    · have e : szR (zVal xs[lx]) (szR (zT zVal xs lx) left) = szR (zT zVal xs (lx + 1)) left := by rw [zT_succ hlt, ← szR_add]
      refine Run (@eVal_eta) ?_; repeat' (first | (with_reducible exact True.intro) | (with_reducible refine Lf.mk ?_ ?_) | (with_reducible intro hb))
      · refine Cal (@eVal_eta) (H _ (List.getElem_mem hlt) _ ⟨hI.2, by omega⟩) ?_
        refine Run (cast_succ) ?_; repeat' (first | (with_reducible exact True.intro) | (with_reducible refine Lf.mk ?_ ?_) | (with_reducible intro hb))
        · rw [e] at hb
          rw [szR_neg hb zT_le]
        · rw [e] at hb
          exact Nxt (@e) (lx + 1) (⟨by omega, hb⟩) (by first | omega | (simp; omega))
      · omega
    · refine Run (cast_succ) ?_; repeat' (first | (with_reducible exact True.intro) | (with_reducible refine Lf.mk ?_ ?_) | (with_reducible intro hb))
      · omega
      · rw [zT_all (by omega)]

theorem szValue_ok (t : Val) (h : okVal (2^48) t) (left : Int) (hl : 0 ≤ left ∧ left ≤ 2^20) : FnP Tryd.prog 51 [agT (eVal t), iT left] (iT (szR (zVal t) left)) := szValue_of t h (fun left hl => szValueS_of t.args ((okVal_iff.1 h).2.2.2) (fun u hu left hl => szValue_ok u (((okVal_iff.1 h).2.2.2).2 u hu) left hl) left hl) left hl
termination_by SizeOf.sizeOf t
decreasing_by all_goals first | exact Ty.mem hu | exact Val.mem hu | exact Tm.mem hu | exact Pl.mem hu | exact Hd.memP hu | exact Hd.memQ hu | exact Cmp.memH _
theorem szValueS_ok (xs : List Val) (h : okLs (2^48) okVal xs) (left : Int) (hl : 0 ≤ left ∧ left ≤ 2^20) : FnP Tryd.prog 71 [slT eVal xs, iT left] (iT (szR (zL zVal xs) left)) := szValueS_of xs h (fun t ht left hl => szValue_ok t (h.2 t ht) left hl) left hl
def fc54SValue := (And.intro (And.intro (And.intro (And.intro (And.intro sz3 ag3) (And.intro zv3 (And.intro un3 sz51))) (And.intro (And.intro ag51 zv51) (And.intro sb51 (And.intro un51 el51)))) (And.intro (And.intro (And.intro ap51 sz60) (And.intro ag60 (And.intro zv60 sb60))) (And.intro (And.intro un60 (And.intro el60 ap60)) (And.intro sz62 (And.intro ag62 zv62))))) (And.intro (And.intro (And.intro (And.intro fl62_0 fl62_1) (And.intro fl62_2 (And.intro fl62_3 pl62))) (And.intro (And.intro sz66 (And.intro ag66 zv66)) (And.intro sb66 (And.intro un66 el66)))) (And.intro (And.intro (And.intro ap66 sz68) (And.intro ag68 (And.intro zv68 fl68_0))) (And.intro (And.intro fl68_1 (And.intro fl68_2 fl68_3)) (And.intro pl68 (And.intro okf63 okf74))))))
theorem toValue_w (t : Val) (h : okVal (2^20) t) (H0 : ∀ q : Nat, FnS Tryd.prog 74 [] [slT eVal t.args] [(q, .row t.args.length (t.args.flatMap eVal))] (.c (.os q t.args.length))) : FnS Tryd.prog 54 [] [agT (eVal t)] [(1000, .row t.labels.length (t.labels.flatMap eS)), (1002, .row t.args.length (t.args.flatMap eVal))] (.ag [.im (.sc (.int .i64 t.kind)), .im (.sc (.int .i64 t.n)), .os 1000 t.labels.length, .os 1002 t.args.length]) := by
  refine FnS.go [0, 1, 2, 3] [] Tryd.func54 rfl (fun kt kz => ?_)
  have fcx := fc54SValue
  simp only [Tryd.f54]
  have ho := okVal_iff.1 h
  refine Run (@eVal_eta) ?_; repeat' (first | (with_reducible exact True.intro) | (with_reducible refine Lf.mk ?_ ?_) | (with_reducible intro hb))
  refine CalI (@eVal_eta) (toStringS_o _ ho.2.2.1 1000) ?_
  refine Run (@eVal_eta) ?_; repeat' (first | (with_reducible exact True.intro) | (with_reducible refine Lf.mk ?_ ?_) | (with_reducible intro hb))
  refine CalI (@eVal_eta) (H0 1002) ?_
  refine Run (@eVal_eta) ?_; repeat' (first | (with_reducible exact True.intro) | (with_reducible refine Lf.mk ?_ ?_) | (with_reducible intro hb))

theorem toValue_q (t : Val) (h : okVal (2^20) t) (H0 : ∀ q : Nat, FnS Tryd.prog 74 [] [slT eVal t.args] [(q, .row t.args.length (t.args.flatMap eVal))] (.c (.os q t.args.length))) : ∀ q0 q1 : Nat, [q0, q1].Nodup → FnS Tryd.prog 54 [] [agT (eVal t)] [(q0, .row t.labels.length (t.labels.flatMap eS)), (q1, .row t.args.length (t.args.flatMap eVal))] (.ag [.im (.sc (.int .i64 t.kind)), .im (.sc (.int .i64 t.n)), .os q0 t.labels.length, .os q1 t.args.length]) := by
  intro q0 q1 hq
  obtain ⟨p, hp⟩ := pml [1000, 1002] [q0, q1] (by decide) hq rfl
  simp only [List.map_cons, List.map_nil, List.cons.injEq, and_true] at hp
  refine ((toValue_w t h H0).rows.pm p).as ?_ ?_ <;> simp [rowS, rowO, renS, Ob.ren, TV.ren, renL, Cell.ren, hp]
def fc74SValue := (And.intro (And.intro (And.intro (And.intro (And.intro sz3 ag3) (And.intro zv3 (And.intro un3 sz4))) (And.intro (And.intro ag4 zv4) (And.intro un4 (And.intro sz60 ag60)))) (And.intro (And.intro (And.intro zv60 sb60) (And.intro un60 (And.intro el60 ap60))) (And.intro (And.intro sz62 ag62) (And.intro zv62 (And.intro fl62_0 fl62_1))))) (And.intro (And.intro (And.intro (And.intro fl62_2 fl62_3) (And.intro pl62 (And.intro sz66 ag66))) (And.intro (And.intro zv66 sb66) (And.intro un66 (And.intro el66 ap66)))) (And.intro (And.intro (And.intro sz68 ag68) (And.intro zv68 (And.intro fl68_0 fl68_1))) (And.intro (And.intro fl68_2 fl68_3) (And.intro pl68 (And.intro okf54 sz51))))))
theorem toValueS_w (xs : List Val) (hx : okLs (2^20) okVal xs) (H : ∀ t ∈ xs, ∀ q0 q1 : Nat, [q0, q1].Nodup → FnS Tryd.prog 54 [] [agT (eVal t)] [(q0, .row t.labels.length (t.labels.flatMap eS)), (q1, .row t.args.length (t.args.flatMap eVal))] (.ag [.im (.sc (.int .i64 t.kind)), .im (.sc (.int .i64 t.n)), .os q0 t.labels.length, .os q1 t.args.length])) : FnS Tryd.prog 74 [] [slT eVal xs] [(14, .vec 68 4 xs.length (xs.flatMap eVal) true)] (.c (.os 14 xs.length)) := by
  refine FnS.go [0, 2, 3, 4, 11] [] Tryd.func74 rfl (fun kt kz => ?_)
  have fcx := fc74SValue
  simp only [Tryd.f74]
  have hx1 := hx.1
  refine Run (cast_succ) ?_; repeat' (first | (with_reducible exact True.intro) | (with_reducible refine Lf.mk ?_ ?_) | (with_reducible intro hb))
  refine Trn (α := Nat) [4, 8, 9, 10, 11, 12, 13, 14, 15, 16, 17, 18, 19, 20, 21] (fun i => [(4, iT i), (3, .c (.os 14 xs.length))]) (fun i => [(14, .vec 68 4 xs.length (filled eVal [.sc (.int .i64 0), .sc (.int .i64 0), .sl 0 [], .sl 0 []] xs i) true)]) (fun i => i ≤ xs.length) (fun i => xs.length - i) (0) (Nat.zero_le _) (cast_succ) ?_; intro lx hI; obtain i := lx; (try simp only [List.nil_append, List.cons_append] at hI ⊢)
  refine Run (@eVal_eta) ?_; repeat' (first | (with_reducible exact True.intro) | (with_reducible refine Lf.mk ?_ ?_) | (with_reducible intro hb))
  · refine CalI (@eVal_eta) (H _ (List.getElem_mem hb) 1000 1002 (by decide)) ?_
    refine Run (@eVal_eta) ?_; repeat' (first | (with_reducible exact True.intro) | (with_reducible refine Lf.mk ?_ ?_) | (with_reducible intro hb))
    have hs := filled_step' (E := eVal) (zs := [.sc (.int .i64 0), .sc (.int .i64 0), .sl 0 [], .sl 0 []]) hb
    simp only [eVal_eta, setL_st, stL_one, slI] at hs
    exact Nxt (@hs) (lx + 1) (by omega) (by first | omega | (simp; omega))

theorem toValueS_q (xs : List Val) (hx : okLs (2^20) okVal xs) (H : ∀ t ∈ xs, ∀ q0 q1 : Nat, [q0, q1].Nodup → FnS Tryd.prog 54 [] [agT (eVal t)] [(q0, .row t.labels.length (t.labels.flatMap eS)), (q1, .row t.args.length (t.args.flatMap eVal))] (.ag [.im (.sc (.int .i64 t.kind)), .im (.sc (.int .i64 t.n)), .os q0 t.labels.length, .os q1 t.args.length])) (q : Nat) : FnS Tryd.prog 74 [] [slT eVal xs] [(q, .row xs.length (xs.flatMap eVal))] (.c (.os q xs.length)) := by
  obtain ⟨p, hp⟩ := pm1 14 q
  refine ((toValueS_w xs hx H).rows.pm p).as ?_ ?_ <;> simp [rowS, rowO, renS, Ob.ren, TV.ren, Cell.ren, hp]

theorem toValue_o (t : Val) (h : okVal (2^20) t) : ∀ q0 q1 : Nat, [q0, q1].Nodup → FnS Tryd.prog 54 [] [agT (eVal t)] [(q0, .row t.labels.length (t.labels.flatMap eS)), (q1, .row t.args.length (t.args.flatMap eVal))] (.ag [.im (.sc (.int .i64 t.kind)), .im (.sc (.int .i64 t.n)), .os q0 t.labels.length, .os q1 t.args.length]) := toValue_q t h (fun q => toValueS_q t.args ((okVal_iff.1 h).2.2.2) (fun u hu => toValue_o u (((okVal_iff.1 h).2.2.2).2 u hu)) q)
termination_by SizeOf.sizeOf t
decreasing_by all_goals first | exact Ty.mem hu | exact Val.mem hu | exact Tm.mem hu | exact Pl.mem hu | exact Hd.memP hu | exact Hd.memQ hu | exact Cmp.memH _
theorem toValueS_o (xs : List Val) (h : okLs (2^20) okVal xs) (q : Nat) : FnS Tryd.prog 74 [] [slT eVal xs] [(q, .row xs.length (xs.flatMap eVal))] (.c (.os q xs.length)) := toValueS_q xs h (fun t ht => toValue_o t (h.2 t ht)) q
def fc57SValue := (And.intro (And.intro (And.intro (And.intro (And.intro sz3 ag3) (And.intro zv3 un3)) (And.intro (And.intro sz4 ag4) (And.intro zv4 un4))) (And.intro (And.intro (And.intro sz51 ag51) (And.intro zv51 sb51)) (And.intro (And.intro un51 el51) (And.intro ap51 sz66)))) (And.intro (And.intro (And.intro (And.intro ag66 zv66) (And.intro sb66 un66)) (And.intro (And.intro el66 ap66) (And.intro sz68 ag68))) (And.intro (And.intro (And.intro zv68 fl68_0) (And.intro fl68_1 fl68_2)) (And.intro (And.intro fl68_3 pl68) (And.intro okf70 okf78)))))
theorem eqValue_of (t : Val) (h : okVal (2^20) t) (H0 : FnP Tryd.prog 78 [slT eVal t.args, slT eVal t.args] (bT true)) : FnS Tryd.prog 57 [] [agT (eVal t), agT (eVal t)] [] (bT true) := by
  refine FnS.go [0, 1, 2, 3, 4, 9, 14, 20, 26] [] Tryd.func57 rfl (fun kt kz => ?_)
  have fcx := fc57SValue
  simp only [Tryd.f57]
  have ho := okVal_iff.1 h
  refine Run (@eVal_eta) ?_; repeat' (first | (with_reducible exact True.intro) | (with_reducible refine Lf.mk ?_ ?_) | (with_reducible intro hb))
  refine Cal (@eVal_eta) (eqStringS_rf _ ho.2.2.1) ?_
  refine Run (@eVal_eta) ?_; repeat' (first | (with_reducible exact True.intro) | (with_reducible refine Lf.mk ?_ ?_) | (with_reducible intro hb))
  refine Cal (@eVal_eta) (H0) ?_
  refine Run (@eVal_eta) ?_; repeat' (first | (with_reducible exact True.intro) | (with_reducible refine Lf.mk ?_ ?_) | (with_reducible intro hb))
def fc78SValue := (And.intro (And.intro (And.intro (And.intro sz3 (And.intro ag3 zv3)) (And.intro un3 (And.intro sz4 ag4))) (And.intro (And.intro zv4 (And.intro un4 sz66)) (And.intro ag66 (And.intro zv66 sb66)))) (And.intro (And.intro (And.intro un66 (And.intro el66 ap66)) (And.intro sz68 (And.intro ag68 zv68))) (And.intro (And.intro fl68_0 (And.intro fl68_1 fl68_2)) (And.intro (And.intro fl68_3 pl68) (And.intro okf57 sz51)))))
theorem eqValueS_of (xs : List Val) (hx : okLs (2^20) okVal xs) (H : ∀ t ∈ xs, FnP Tryd.prog 57 [agT (eVal t), agT (eVal t)] (bT true)) : FnS Tryd.prog 78 [] [slT eVal xs, slT eVal xs] [] (bT true) := by
  refine FnS.go [0, 1, 4, 5, 10, 14, 26] [] Tryd.func78 rfl (fun kt kz => ?_)
  have fcx := fc78SValue
  simp only [Tryd.f78]
  have hx1 := hx.1
  refine Run (cast_succ) ?_; repeat' (first | (with_reducible exact True.intro) | (with_reducible refine Lf.mk ?_ ?_) | (with_reducible intro hb))
  refine Trn (α := Nat) [4, 5, 11, 12, 13, 14, 15, 16, 17, 18, 19, 20, 21, 22, 23, 24, 25, 26] (fun i => [(5, iT i)]) (fun i => []) (fun i => i ≤ xs.length) (fun i => xs.length - i) (0) (Nat.zero_le _) (cast_succ) ?_; intro lx hI; obtain i := lx; (try simp only [List.nil_append, List.cons_append] at hI ⊢)
  refine Run (@eVal_eta) ?_; repeat' (first | (with_reducible exact True.intro) | (with_reducible refine Lf.mk ?_ ?_) | (with_reducible intro hb))
  · refine Cal (@eVal_eta) (H _ (List.getElem_mem hb)) ?_
    refine Run (@eVal_eta) ?_; repeat' (first | (with_reducible exact True.intro) | (with_reducible refine Lf.mk ?_ ?_) | (with_reducible intro hb))
    exact Nxt (cast_succ) (lx + 1) (by omega) (by first | omega | (simp; omega))

theorem eqValue_ok (t : Val) (h : okVal (2^20) t) : FnP Tryd.prog 57 [agT (eVal t), agT (eVal t)] (bT true) := eqValue_of t h (eqValueS_of t.args ((okVal_iff.1 h).2.2.2) (fun u hu => eqValue_ok u (((okVal_iff.1 h).2.2.2).2 u hu)))
termination_by SizeOf.sizeOf t
decreasing_by all_goals first | exact Ty.mem hu | exact Val.mem hu | exact Tm.mem hu | exact Pl.mem hu | exact Hd.memP hu | exact Hd.memQ hu | exact Cmp.memH _
theorem eqValueS_ok (xs : List Val) (h : okLs (2^20) okVal xs) : FnP Tryd.prog 78 [slT eVal xs, slT eVal xs] (bT true) := eqValueS_of xs h (fun t ht => eqValue_ok t (h.2 t ht))
theorem toValue_ok (t : Val) (h : okVal (2^20) t) : FnP Tryd.prog 54 [agT (eVal t)] (agT (eVal t)) := (toValue_o t h 1000 1002 (by decide)).tree (by simp -dsimp (maxSteps := 2000000) (disch := omega) only [vs, ↓Option.bind_some, ev1, ofV, scalarB, Kn, Kb, calleeOf, evLoad, ptr, evField, evFieldAddr, shift, ↓pt_at, ↓pt_at1, evExtract, evBin, evLen, evConv, cellsT, noS, Cell.has, Cell.hasN, Cell.anyN, toIV, toIV0, toIVs, ownC, srcM, Ob.own, Ob.esz, allSc, nilK, lenC, ownCell, isPtr, ptrNil, frzO, Cell.frz, Cell.keys, ↓reduceIte, reduceCtorEq, Nat.reduceEqDiff, Nat.reduceBEq, Nat.reduceBNe, Nat.reduceAdd, Nat.reduceMul, Nat.reduceSub, Nat.reduceLT, Nat.reduceLeDiff, Nat.reducePow, Int.reduceLT, Int.reduceLE, Int.reduceEq, Int.reduceNe, quietB, Nat.reduceMod, Int.reduceToNat, ne_eq, eq_self, exists_const, evBytes, byRow, byL, byStr_size, ifsz, ByteArray.size_append, Option.none_or, Option.some_or, evLook, keyD, eVal_eta])
theorem toValueS_ok (xs : List Val) (h : okLs (2^20) okVal xs) : FnP Tryd.prog 74 [slT eVal xs] (slT eVal xs) := (toValueS_o xs h 1000).tree (by simp -dsimp (maxSteps := 2000000) (disch := omega) only [vs, ↓Option.bind_some, ev1, ofV, scalarB, Kn, Kb, calleeOf, evLoad, ptr, evField, evFieldAddr, shift, ↓pt_at, ↓pt_at1, evExtract, evBin, evLen, evConv, cellsT, noS, Cell.has, Cell.hasN, Cell.anyN, toIV, toIV0, toIVs, ownC, srcM, Ob.own, Ob.esz, allSc, nilK, lenC, ownCell, isPtr, ptrNil, frzO, Cell.frz, Cell.keys, ↓reduceIte, reduceCtorEq, Nat.reduceEqDiff, Nat.reduceBEq, Nat.reduceBNe, Nat.reduceAdd, Nat.reduceMul, Nat.reduceSub, Nat.reduceLT, Nat.reduceLeDiff, Nat.reducePow, Int.reduceLT, Int.reduceLE, Int.reduceEq, Int.reduceNe, quietB, Nat.reduceMod, Int.reduceToNat, ne_eq, eq_self, exists_const, evBytes, byRow, byL, byStr_size, ifsz, ByteArray.size_append, Option.none_or, Option.some_or, evLook, keyD])

end Go.VC.T
/- Data (Annotated): how they are measured, copied and compared. -/
namespace Go.VC.T
open Go Go.VC Go.Proofs Go.VC.F
set_option linter.unusedSimpArgs false
set_option linter.unusedVariables false
set_option linter.defProp false
set_option maxRecDepth 100000
set_option maxHeartbeats 2000000
def fc33SAnnotated := (And.intro (And.intro (And.intro (And.intro (And.intro sz3 ag3) (And.intro zv3 un3)) (And.intro (And.intro sz4 ag4) (And.intro zv4 un4))) (And.intro (And.intro (And.intro sz32 ag32) (And.intro zv32 fl32_0)) (And.intro (And.intro pl32 sz62) (And.intro ag62 zv62)))) (And.intro (And.intro (And.intro (And.intro fl62_0 fl62_1) (And.intro fl62_2 fl62_3)) (And.intro (And.intro pl62 sz64) (And.intro ag64 zv64))) (And.intro (And.intro (And.intro fl64_0 fl64_1) (And.intro pl64 okf12)) (And.intro (And.intro okf51 sz30) (And.intro sz51 sz60)))))
theorem szAnnotated_ok (t : Ann) (h : okAnn (2^48) t) (left : Int) (hl : 0 ≤ left ∧ left ≤ 2^20) : FnS Tryd.prog 33 [] [agT (eAnn t), iT left] [] (iT (szR (zAnn t) left)) := by
  refine FnS.go [0, 1, 2, 4, 10, 16] [] Tryd.func33 rfl (fun kt kz => ?_)
  have fcx := fc33SAnnotated
  simp only [Tryd.f33]
  have ho := okAnn_iff.1 h
  refine Run ((And.intro (And.intro @eAnn_eta @eVal_eta) (And.intro @ePoly_eta @szR_add))) ?_; repeat' (first | (with_reducible exact True.intro) | (with_reducible refine Lf.mk ?_ ?_) | (with_reducible intro hb))
  refine Cal ((And.intro (And.intro @eAnn_eta @eVal_eta) (And.intro @ePoly_eta @szR_add))) (szValue_ok _ ho.1 _ hl) ?_
  have hz := szR_le (n := zVal t.value) hl.1
  refine Run ((And.intro (And.intro @eAnn_eta @eVal_eta) (And.intro @ePoly_eta @szR_add))) ?_; repeat' (first | (with_reducible exact True.intro) | (with_reducible refine Lf.mk ?_ ?_) | (with_reducible intro hb))
  · congr 4; have s1 := szR_spec (zVal t.value) left; have s2 := szR_spec (zAnn t) left; rw [zAnn_eta] at s2 ⊢; omega
  · skip
    refine Cal ((And.intro (And.intro @eAnn_eta @eVal_eta) (And.intro @ePoly_eta @szR_add))) (szPoly_ok _ ho.2 _ ⟨(by assumption), by have := szR_le (n := zVal t.value) hl.1; omega⟩) ?_
    have hz := szR_le (n := zVal t.value + zPoly t.poly) hl.1
    refine Run ((And.intro (And.intro @eAnn_eta @eVal_eta) (And.intro @ePoly_eta @szR_add))) ?_; repeat' (first | (with_reducible exact True.intro) | (with_reducible refine Lf.mk ?_ ?_) | (with_reducible intro hb))
    · congr 4; have s1 := szR_spec (zVal t.value + zPoly t.poly) left; have s2 := szR_spec (zAnn t) left; rw [zAnn_eta] at s2 ⊢; omega
    · skip
      rw [zAnn_eta]
def fc17SAnnotated := (And.intro (And.intro (And.intro (And.intro sz3 (And.intro ag3 zv3)) (And.intro un3 (And.intro sz4 ag4))) (And.intro (And.intro zv4 (And.intro un4 sz41)) (And.intro ag41 (And.intro zv41 sb41)))) (And.intro (And.intro (And.intro un41 (And.intro el41 ap41)) (And.intro sz64 (And.intro ag64 zv64))) (And.intro (And.intro fl64_0 (And.intro fl64_1 pl64)) (And.intro okf33 (And.intro sz62 sz32)))))
theorem szAnnotatedS_of (xs : List Ann) (hx : okLs (2^48) okAnn xs) (H : ∀ t ∈ xs, ∀ left : Int, 0 ≤ left ∧ left ≤ 2^20 → FnP Tryd.prog 33 [agT (eAnn t), iT left] (iT (szR (zAnn t) left))) (left : Int) (hl : 0 ≤ left ∧ left ≤ 2^20) : FnS Tryd.prog 17 [] [slT eAnn xs, iT left] [] (iT (szR (zL zAnn xs) left)) := by
  refine FnS.go [0, 1, 4, 5, 11, 15, 25] [] Tryd.func17 rfl (fun kt kz => ?_)
  have fcx := fc17SAnnotated
  simp only [Tryd.f17]
  have hx1 := hx.1
  refine Run (cast_succ) ?_; repeat' (first | (with_reducible exact True.intro) | (with_reducible refine Lf.mk ?_ ?_) | (with_reducible intro hb))
  · simp only [szR_nil hb zL_len]
  · rw [szR_sub hb]
    have hb2 := szR_sub hb ▸ hb
    refine Trn (α := Nat) [1, 4, 5, 12, 13, 14, 15, 16, 17, 18, 19, 20, 21, 22, 23, 24, 25] (fun i => [(5, iT i), (1, iT (szR (zT zAnn xs i) left))]) (fun i => []) (fun i => i ≤ xs.length ∧ 0 ≤ szR (zT zAnn xs i) left) (fun i => xs.length - i) (0) (⟨Nat.zero_le _, by rw [zT_zero]; exact hb2⟩) ((zT_zero (z := zAnn) (l := xs))) ?_; intro lx hI; obtain i := lx; (try simp only [List.nil_append, List.cons_append] at hI ⊢)
    have hz := szR_le (n := zT zAnn xs lx) hl.1
    by_cases hlt : lx < xs.length
    · have e : szR (zAnn xs[lx]) (szR (zT zAnn xs lx) left) = szR (zT zAnn xs (lx + 1)) left := by rw [zT_succ hlt, ← szR_add]
      refine Run ((And.intro @eAnn_eta (And.intro @eVal_eta @ePoly_eta))) ?_; repeat' (first | (with_reducible exact True.intro) | (with_reducible refine Lf.mk ?_ ?_) | (with_reducible intro hb))
      · refine Cal ((And.intro @eAnn_eta (And.intro @eVal_eta @ePoly_eta))) (H _ (List.getElem_mem hlt) _ ⟨hI.2, by omega⟩) ?_
        refine Run (cast_succ) ?_; repeat' (first | (with_reducible exact True.intro) | (with_reducible refine Lf.mk ?_ ?_) | (with_reducible intro hb))
        · rw [e] at hb
          rw [szR_neg hb zT_le]
        · rw [e] at hb
          exact Nxt (@e) (lx + 1) (⟨by omega, hb⟩) (by first | omega | (simp; omega))
      · omega
    · refine Run (cast_succ) ?_; repeat' (first | (with_reducible exact True.intro) | (with_reducible refine Lf.mk ?_ ?_) | (with_reducible intro hb))
      · omega
      · rw [zT_all (by omega)]

theorem szAnnotatedS_ok (xs : List Ann) (h : okLs (2^48) okAnn xs) (left : Int) (hl : 0 ≤ left ∧ left ≤ 2^20) : FnP Tryd.prog 17 [slT eAnn xs, iT left] (iT (szR (zL zAnn xs) left)) := szAnnotatedS_of xs h (fun t ht left hl => szAnnotated_ok t (h.2 t ht) left hl) left hl
def fc35SAnnotated := (And.intro (And.intro (And.intro (And.intro (And.intro sz32 ag32) (And.intro zv32 (And.intro fl32_0 pl32))) (And.intro (And.intro sz37 (And.intro ag37 zv37)) (And.intro fl37_0 (And.intro pl37 sz62)))) (And.intro (And.intro (And.intro ag62 (And.intro zv62 fl62_0)) (And.intro fl62_1 (And.intro fl62_2 fl62_3))) (And.intro (And.intro pl62 (And.intro sz64 ag64)) (And.intro zv64 (And.intro fl64_0 fl64_1))))) (And.intro (And.intro (And.intro (And.intro pl64 sz68) (And.intro ag68 (And.intro zv68 fl68_0))) (And.intro (And.intro fl68_1 (And.intro fl68_2 fl68_3)) (And.intro pl68 (And.intro sz70 ag70)))) (And.intro (And.intro (And.intro zv70 (And.intro fl70_0 fl70_1)) (And.intro pl70 (And.intro okf14 okf54))) (And.intro (And.intro sz30 (And.intro sz35 sz3)) (And.intro sz51 (And.intro sz60 sz66))))))
theorem toAnnotated_w (t : Ann) (h : okAnn (2^20) t) : FnS Tryd.prog 35 [] [agT (eAnn t)] [(1000, .row t.value.labels.length (t.value.labels.flatMap eS)), (1002, .row t.value.args.length (t.value.args.flatMap eVal)), (1004, .row t.poly.length (t.poly.flatMap eMono))] (.ag [.im (.sc (.int .i64 t.value.kind)), .im (.sc (.int .i64 t.value.n)), .os 1000 t.value.labels.length, .os 1002 t.value.args.length, .os 1004 t.poly.length]) := by
  refine FnS.go [0, 1, 2, 3] [] Tryd.func35 rfl (fun kt kz => ?_)
  have fcx := fc35SAnnotated
  simp only [Tryd.f35]
  have ho := okAnn_iff.1 h
  refine Run ((And.intro @eAnn_eta (And.intro @eVal_eta @ePoly_eta))) ?_; repeat' (first | (with_reducible exact True.intro) | (with_reducible refine Lf.mk ?_ ?_) | (with_reducible intro hb))
  refine CalI ((And.intro @eAnn_eta (And.intro @eVal_eta @ePoly_eta))) (toValue_o _ ho.1 1000 1002 (by decide)) ?_
  refine Run ((And.intro @eAnn_eta (And.intro @eVal_eta @ePoly_eta))) ?_; repeat' (first | (with_reducible exact True.intro) | (with_reducible refine Lf.mk ?_ ?_) | (with_reducible intro hb))
  refine CalI ((And.intro @eAnn_eta (And.intro @eVal_eta @ePoly_eta))) (toPoly_o _ ho.2 1004 (by decide)) ?_
  refine Run ((And.intro @eAnn_eta (And.intro @eVal_eta @ePoly_eta))) ?_; repeat' (first | (with_reducible exact True.intro) | (with_reducible refine Lf.mk ?_ ?_) | (with_reducible intro hb))

theorem toAnnotated_o (t : Ann) (h : okAnn (2^20) t) : ∀ q0 q1 q2 : Nat, [q0, q1, q2].Nodup → FnS Tryd.prog 35 [] [agT (eAnn t)] [(q0, .row t.value.labels.length (t.value.labels.flatMap eS)), (q1, .row t.value.args.length (t.value.args.flatMap eVal)), (q2, .row t.poly.length (t.poly.flatMap eMono))] (.ag [.im (.sc (.int .i64 t.value.kind)), .im (.sc (.int .i64 t.value.n)), .os q0 t.value.labels.length, .os q1 t.value.args.length, .os q2 t.poly.length]) := by
  intro q0 q1 q2 hq
  obtain ⟨p, hp⟩ := pml [1000, 1002, 1004] [q0, q1, q2] (by decide) hq rfl
  simp only [List.map_cons, List.map_nil, List.cons.injEq, and_true] at hp
  refine ((toAnnotated_w t h).rows.pm p).as ?_ ?_ <;> simp [rowS, rowO, renS, Ob.ren, TV.ren, renL, Cell.ren, hp]
def fc19SAnnotated := (And.intro (And.intro (And.intro (And.intro (And.intro sz3 ag3) (And.intro zv3 un3)) (And.intro (And.intro sz4 ag4) (And.intro zv4 (And.intro un4 sz41)))) (And.intro (And.intro (And.intro ag41 zv41) (And.intro sb41 (And.intro un41 el41))) (And.intro (And.intro ap41 sz44) (And.intro ag44 (And.intro zv44 sb44))))) (And.intro (And.intro (And.intro (And.intro un44 el44) (And.intro ap44 (And.intro sz64 ag64))) (And.intro (And.intro zv64 fl64_0) (And.intro fl64_1 (And.intro pl64 sz70)))) (And.intro (And.intro (And.intro ag70 zv70) (And.intro fl70_0 (And.intro fl70_1 pl70))) (And.intro (And.intro okf35 sz62) (And.intro sz32 (And.intro sz68 sz37))))))
theorem toAnnotatedS_w (xs : List Ann) (hx : okLs (2^20) okAnn xs) (H : ∀ t ∈ xs, ∀ q0 q1 q2 : Nat, [q0, q1, q2].Nodup → FnS Tryd.prog 35 [] [agT (eAnn t)] [(q0, .row t.value.labels.length (t.value.labels.flatMap eS)), (q1, .row t.value.args.length (t.value.args.flatMap eVal)), (q2, .row t.poly.length (t.poly.flatMap eMono))] (.ag [.im (.sc (.int .i64 t.value.kind)), .im (.sc (.int .i64 t.value.n)), .os q0 t.value.labels.length, .os q1 t.value.args.length, .os q2 t.poly.length])) : FnS Tryd.prog 19 [] [slT eAnn xs] [(14, .vec 70 5 xs.length (xs.flatMap eAnn) true)] (.c (.os 14 xs.length)) := by
  refine FnS.go [0, 2, 3, 4, 11] [] Tryd.func19 rfl (fun kt kz => ?_)
  have fcx := fc19SAnnotated
  simp only [Tryd.f19]
  have hx1 := hx.1
  refine Run (cast_succ) ?_; repeat' (first | (with_reducible exact True.intro) | (with_reducible refine Lf.mk ?_ ?_) | (with_reducible intro hb))
  refine Trn (α := Nat) [4, 8, 9, 10, 11, 12, 13, 14, 15, 16, 17, 18, 19, 20, 21] (fun i => [(4, iT i), (3, .c (.os 14 xs.length))]) (fun i => [(14, .vec 70 5 xs.length (filled eAnn [.sc (.int .i64 0), .sc (.int .i64 0), .sl 0 [], .sl 0 [], .sl 0 []] xs i) true)]) (fun i => i ≤ xs.length) (fun i => xs.length - i) (0) (Nat.zero_le _) (cast_succ) ?_; intro lx hI; obtain i := lx; (try simp only [List.nil_append, List.cons_append] at hI ⊢)
  refine Run ((And.intro @eAnn_eta (And.intro @eVal_eta @ePoly_eta))) ?_; repeat' (first | (with_reducible exact True.intro) | (with_reducible refine Lf.mk ?_ ?_) | (with_reducible intro hb))
  · refine CalI ((And.intro @eAnn_eta (And.intro @eVal_eta @ePoly_eta))) (H _ (List.getElem_mem hb) 1000 1002 1004 (by decide)) ?_
    refine Run ((And.intro @eAnn_eta (And.intro @eVal_eta @ePoly_eta))) ?_; repeat' (first | (with_reducible exact True.intro) | (with_reducible refine Lf.mk ?_ ?_) | (with_reducible intro hb))
    have hs := filled_step' (E := eAnn) (zs := [.sc (.int .i64 0), .sc (.int .i64 0), .sl 0 [], .sl 0 [], .sl 0 []]) hb
    simp only [eAnn_eta, eVal_eta, ePoly_eta, setL_st, stL_one, slI] at hs
    exact Nxt (@hs) (lx + 1) (by omega) (by first | omega | (simp; omega))

theorem toAnnotatedS_q (xs : List Ann) (hx : okLs (2^20) okAnn xs) (H : ∀ t ∈ xs, ∀ q0 q1 q2 : Nat, [q0, q1, q2].Nodup → FnS Tryd.prog 35 [] [agT (eAnn t)] [(q0, .row t.value.labels.length (t.value.labels.flatMap eS)), (q1, .row t.value.args.length (t.value.args.flatMap eVal)), (q2, .row t.poly.length (t.poly.flatMap eMono))] (.ag [.im (.sc (.int .i64 t.value.kind)), .im (.sc (.int .i64 t.value.n)), .os q0 t.value.labels.length, .os q1 t.value.args.length, .os q2 t.poly.length])) (q : Nat) : FnS Tryd.prog 19 [] [slT eAnn xs] [(q, .row xs.length (xs.flatMap eAnn))] (.c (.os q xs.length)) := by
  obtain ⟨p, hp⟩ := pm1 14 q
  refine ((toAnnotatedS_w xs hx H).rows.pm p).as ?_ ?_ <;> simp [rowS, rowO, renS, Ob.ren, TV.ren, Cell.ren, hp]

theorem toAnnotatedS_o (xs : List Ann) (h : okLs (2^20) okAnn xs) (q : Nat) : FnS Tryd.prog 19 [] [slT eAnn xs] [(q, .row xs.length (xs.flatMap eAnn))] (.c (.os q xs.length)) := toAnnotatedS_q xs h (fun t ht => toAnnotated_o t (h.2 t ht)) q
def fc37SAnnotated := (And.intro (And.intro (And.intro (And.intro sz4 (And.intro ag4 zv4)) (And.intro (And.intro un4 sz37) (And.intro ag37 zv37))) (And.intro (And.intro fl37_0 (And.intro pl37 sz68)) (And.intro (And.intro ag68 zv68) (And.intro fl68_0 fl68_1)))) (And.intro (And.intro (And.intro fl68_2 (And.intro fl68_3 pl68)) (And.intro (And.intro sz70 ag70) (And.intro zv70 fl70_0))) (And.intro (And.intro (And.intro fl70_1 pl70) (And.intro okf16 okf57)) (And.intro (And.intro sz35 sz3) (And.intro sz51 sz66)))))
theorem eqAnnotated_ok (t : Ann) (h : okAnn (2^20) t) : FnS Tryd.prog 37 [] [agT (eAnn t), agT (eAnn t)] [] (bT true) := by
  refine FnS.go [0, 1, 2, 3, 4, 10, 16] [] Tryd.func37 rfl (fun kt kz => ?_)
  have fcx := fc37SAnnotated
  simp only [Tryd.f37]
  have ho := okAnn_iff.1 h
  refine Run ((And.intro @eAnn_eta (And.intro @eVal_eta @ePoly_eta))) ?_; repeat' (first | (with_reducible exact True.intro) | (with_reducible refine Lf.mk ?_ ?_) | (with_reducible intro hb))
  refine Cal ((And.intro @eAnn_eta (And.intro @eVal_eta @ePoly_eta))) (eqValue_ok _ ho.1) ?_
  refine Run ((And.intro @eAnn_eta (And.intro @eVal_eta @ePoly_eta))) ?_; repeat' (first | (with_reducible exact True.intro) | (with_reducible refine Lf.mk ?_ ?_) | (with_reducible intro hb))
  refine Cal ((And.intro @eAnn_eta (And.intro @eVal_eta @ePoly_eta))) (eqPoly_ok _ ho.2) ?_
  refine Run ((And.intro @eAnn_eta (And.intro @eVal_eta @ePoly_eta))) ?_; repeat' (first | (with_reducible exact True.intro) | (with_reducible refine Lf.mk ?_ ?_) | (with_reducible intro hb))
def fc21SAnnotated := (And.intro (And.intro (And.intro (And.intro sz3 (And.intro ag3 zv3)) (And.intro un3 (And.intro sz4 ag4))) (And.intro (And.intro zv4 (And.intro un4 sz44)) (And.intro ag44 (And.intro zv44 sb44)))) (And.intro (And.intro (And.intro un44 (And.intro el44 ap44)) (And.intro sz70 (And.intro ag70 zv70))) (And.intro (And.intro fl70_0 (And.intro fl70_1 pl70)) (And.intro okf37 (And.intro sz68 sz37)))))
theorem eqAnnotatedS_of (xs : List Ann) (hx : okLs (2^20) okAnn xs) (H : ∀ t ∈ xs, FnP Tryd.prog 37 [agT (eAnn t), agT (eAnn t)] (bT true)) : FnS Tryd.prog 21 [] [slT eAnn xs, slT eAnn xs] [] (bT true) := by
  refine FnS.go [0, 1, 4, 5, 10, 14, 26] [] Tryd.func21 rfl (fun kt kz => ?_)
  have fcx := fc21SAnnotated
  simp only [Tryd.f21]
  have hx1 := hx.1
  refine Run (cast_succ) ?_; repeat' (first | (with_reducible exact True.intro) | (with_reducible refine Lf.mk ?_ ?_) | (with_reducible intro hb))
  refine Trn (α := Nat) [4, 5, 11, 12, 13, 14, 15, 16, 17, 18, 19, 20, 21, 22, 23, 24, 25, 26] (fun i => [(5, iT i)]) (fun i => []) (fun i => i ≤ xs.length) (fun i => xs.length - i) (0) (Nat.zero_le _) (cast_succ) ?_; intro lx hI; obtain i := lx; (try simp only [List.nil_append, List.cons_append] at hI ⊢)
  refine Run ((And.intro @eAnn_eta (And.intro @eVal_eta @ePoly_eta))) ?_; repeat' (first | (with_reducible exact True.intro) | (with_reducible refine Lf.mk ?_ ?_) | (with_reducible intro hb))
  · refine Cal ((And.intro @eAnn_eta (And.intro @eVal_eta @ePoly_eta))) (H _ (List.getElem_mem hb)) ?_
    refine Run ((And.intro @eAnn_eta (And.intro @eVal_eta @ePoly_eta))) ?_; repeat' (first | (with_reducible exact True.intro) | (with_reducible refine Lf.mk ?_ ?_) | (with_reducible intro hb))
    exact Nxt (cast_succ) (lx + 1) (by omega) (by first | omega | (simp; omega))

theorem eqAnnotatedS_ok (xs : List Ann) (h : okLs (2^20) okAnn xs) : FnP Tryd.prog 21 [slT eAnn xs, slT eAnn xs] (bT true) := eqAnnotatedS_of xs h (fun t ht => eqAnnotated_ok t (h.2 t ht))
theorem toAnnotated_ok (t : Ann) (h : okAnn (2^20) t) : FnP Tryd.prog 35 [agT (eAnn t)] (agT (eAnn t)) := (toAnnotated_o t h 1000 1002 1004 (by decide)).tree (by simp -dsimp (maxSteps := 2000000) (disch := omega) only [vs, ↓Option.bind_some, ev1, ofV, scalarB, Kn, Kb, calleeOf, evLoad, ptr, evField, evFieldAddr, shift, ↓pt_at, ↓pt_at1, evExtract, evBin, evLen, evConv, cellsT, noS, Cell.has, Cell.hasN, Cell.anyN, toIV, toIV0, toIVs, ownC, srcM, Ob.own, Ob.esz, allSc, nilK, lenC, ownCell, isPtr, ptrNil, frzO, Cell.frz, Cell.keys, ↓reduceIte, reduceCtorEq, Nat.reduceEqDiff, Nat.reduceBEq, Nat.reduceBNe, Nat.reduceAdd, Nat.reduceMul, Nat.reduceSub, Nat.reduceLT, Nat.reduceLeDiff, Nat.reducePow, Int.reduceLT, Int.reduceLE, Int.reduceEq, Int.reduceNe, quietB, Nat.reduceMod, Int.reduceToNat, ne_eq, eq_self, exists_const, evBytes, byRow, byL, byStr_size, ifsz, ByteArray.size_append, Option.none_or, Option.some_or, evLook, keyD, eAnn_eta, eVal_eta, ePoly_eta])
theorem toAnnotatedS_ok (xs : List Ann) (h : okLs (2^20) okAnn xs) : FnP Tryd.prog 19 [slT eAnn xs] (slT eAnn xs) := (toAnnotatedS_o xs h 1000).tree (by simp -dsimp (maxSteps := 2000000) (disch := omega) only [vs, ↓Option.bind_some, ev1, ofV, scalarB, Kn, Kb, calleeOf, evLoad, ptr, evField, evFieldAddr, shift, ↓pt_at, ↓pt_at1, evExtract, evBin, evLen, evConv, cellsT, noS, Cell.has, Cell.hasN, Cell.anyN, toIV, toIV0, toIVs, ownC, srcM, Ob.own, Ob.esz, allSc, nilK, lenC, ownCell, isPtr, ptrNil, frzO, Cell.frz, Cell.keys, ↓reduceIte, reduceCtorEq, Nat.reduceEqDiff, Nat.reduceBEq, Nat.reduceBNe, Nat.reduceAdd, Nat.reduceMul, Nat.reduceSub, Nat.reduceLT, Nat.reduceLeDiff, Nat.reducePow, Int.reduceLT, Int.reduceLE, Int.reduceEq, Int.reduceNe, quietB, Nat.reduceMod, Int.reduceToNat, ne_eq, eq_self, exists_const, evBytes, byRow, byL, byStr_size, ifsz, ByteArray.size_append, Option.none_or, Option.some_or, evLook, keyD])

end Go.VC.T
/- Annotated values as texts: the reference, and the program under the library's table. -/
namespace Go.VC
open Go
noncomputable def annB (a : Ann) : ByteArray := fvB a.value ++ ⟨#[58, 32]⟩ ++ polyB a.poly
noncomputable def provB (xs : List Ann) : ByteArray := joinB (xs.map annB) ⟨#[59, 32]⟩
theorem jz_cons (sep x : ByteArray) (r : List ByteArray) : jz sep (x :: r) = x.size + sep.size + jz sep r := by unfold jz; simp
theorem jz_vars (sep : ByteArray) (hs : sep.size = 1) : ∀ l : List ByteArray, jz sep l = zSL l
  | [] => rfl
  | x :: r => by
    have ih := jz_vars sep hs r
    have e : zSL (x :: r) = 1 + x.size + zSL r := by unfold zSL zL; simp [zS]; omega
    rw [jz_cons, ih, e, hs]; omega
theorem joinB_jz (sep : ByteArray) (xs : List ByteArray) : (joinB xs sep).size ≤ jz sep xs := by
  have := joinB_size (sep := sep) (xs := xs) xs.length
  rwa [List.take_length] at this
theorem monoB_lin (m : Mono) (h : ok64 m.coef) : (monoB m).size ≤ 22 + zMono m := by
  have h1 := joinB_jz ⟨#[42]⟩ (facs m)
  have h2 := jz_vars ⟨#[42]⟩ rfl m.vars
  have h3 := fmtB_size (n := m.coef) h
  have e : (ByteArray.mk #[42]).size = 1 := rfl
  have h4 : jz ⟨#[42]⟩ (facs m) ≤ 22 + zSL m.vars := by
    unfold facs
    split
    · omega
    · rw [jz_cons]; omega
  rw [zMono_eta]
  unfold monoB
  omega
theorem polys_lin : ∀ (l : List Mono), (∀ m ∈ l, ok64 m.coef) → jz ⟨#[43]⟩ (l.map monoB) ≤ 23 * zL zMono l
  | [], _ => Nat.zero_le _
  | m :: r, h => by
    have ih := polys_lin r fun m hm => h m (by simp [hm])
    have h1 := monoB_lin m (h m (by simp))
    have e : (ByteArray.mk #[43]).size = 1 := rfl
    have e2 : zL zMono (m :: r) = 1 + zMono m + zL zMono r := by unfold zL; simp; omega
    rw [List.map_cons, jz_cons, e2]
    omega
theorem polyB_lin (l : List Mono) (h : ∀ m ∈ l, ok64 m.coef) : (polyB l).size ≤ 23 * zPoly l + 1 := by
  have h1 := joinB_jz ⟨#[43]⟩ (l.map monoB)
  have h2 := polys_lin l h
  have e : (ByteArray.mk #[48]).size = 1 := rfl
  have e0 : (ByteArray.mk #[]).size = 0 := rfl
  rw [zPoly_eta]
  unfold polyB
  split
  · split <;> omega
  · omega
theorem fvB_lin (v : Val) (h : okVal (2^20) v) : (fvB v).size ≤ 27 * (1 + zVal v) := by
  have e0 : (ByteArray.mk #[]).size = 0 := rfl
  unfold fvB
  split
  · rename_i hv
    have h1 := valB_size v hv.2 h
    have h2 := vsz_le v
    omega
  · omega
theorem annB_lin (a : Ann) (h : okAnn (2^20) a) : (annB a).size ≤ 27 * zAnn a + 30 := by
  have ho := okAnn_iff.1 h
  have h1 := fvB_lin a.value ho.1
  have h2 := polyB_lin a.poly fun m hm => (okMono_iff.1 ((okPoly_iff.1 ho.2).2 m hm)).1
  have e : (ByteArray.mk #[58, 32]).size = 2 := rfl
  have hz := zAnn_eta a
  unfold annB
  rw [ByteArray.size_append, ByteArray.size_append]
  omega
theorem prov_lin : ∀ (xs : List Ann), (∀ a ∈ xs, okAnn (2^20) a) → jz ⟨#[59, 32]⟩ (xs.map annB) ≤ 32 * zL zAnn xs
  | [], _ => Nat.zero_le _
  | a :: r, h => by
    have ih := prov_lin r fun m hm => h m (by simp [hm])
    have h1 := annB_lin a (h a (by simp))
    have e : (ByteArray.mk #[59, 32]).size = 2 := rfl
    have e2 : zL zAnn (a :: r) = 1 + zAnn a + zL zAnn r := by unfold zL; simp; omega
    rw [List.map_cons, jz_cons, e2]
    omega
end Go.VC
namespace Go.VC.T
open Go Go.VC Go.Proofs Go.VC.F
set_option linter.unusedSimpArgs false
set_option linter.unusedVariables false
set_option linter.defProp false
set_option maxRecDepth 100000
set_option maxHeartbeats 2000000
def fc18A62 := (And.intro (And.intro (And.intro (And.intro (And.intro sz3 (And.intro ag3 zv3)) (And.intro un3 (And.intro sz4 ag4))) (And.intro (And.intro zv4 (And.intro un4 sz9)) (And.intro ag9 (And.intro zv9 un9)))) (And.intro (And.intro (And.intro sz37 (And.intro ag37 zv37)) (And.intro fl37_0 (And.intro pl37 sz44))) (And.intro (And.intro ag44 (And.intro zv44 sb44)) (And.intro (And.intro un44 el44) (And.intro ap44 sz51))))) (And.intro (And.intro (And.intro (And.intro ag51 (And.intro zv51 sb51)) (And.intro un51 (And.intro el51 ap51))) (And.intro (And.intro sz68 (And.intro ag68 zv68)) (And.intro fl68_0 (And.intro fl68_1 fl68_2)))) (And.intro (And.intro (And.intro fl68_3 (And.intro pl68 sz70)) (And.intro ag70 (And.intro zv70 fl70_0))) (And.intro (And.intro fl70_1 (And.intro pl70 okf13)) (And.intro (And.intro okf26 okf34) (And.intro sz35 sz66))))))
theorem specProv_ok (xs : List Ann) (h : okLs (2^20) okAnn xs) (hz : zL zAnn xs ≤ 2^20) : FnS Tryd.prog 18 [] [slT eAnn xs] [] (sT (provB xs)) := by
  refine FnS.go [0, 2, 3, 4, 9] [] Tryd.func18 rfl (fun kt kz => ?_)
  have fcx := fc18A62
  simp only [Tryd.f18]
  have hl := h.1
  have hlin := prov_lin xs h.2
  refine Run (cast_succ) ?_; repeat' (first | (with_reducible exact True.intro) | (with_reducible refine Lf.mk ?_ ?_) | (with_reducible intro hb))
  refine Trn (α := Nat) [3, 4, 6, 7, 8, 9, 10, 11, 12, 13, 14, 15, 16, 17, 18, 19, 20, 21, 22, 23, 24, 25, 26, 27, 28] (fun i => [(4, iT i), (3, .c (.os 10 i))]) (fun i => [(10, .vec 9 1 i (((xs.map annB).take i).flatMap eS) true)]) (fun i => i ≤ xs.length) (fun i => xs.length - i) (0) (Nat.zero_le _) (cast_succ) ?_; intro lx hI; obtain i := lx; (try simp only [List.nil_append, List.cons_append] at hI ⊢)
  by_cases hlt : lx < xs.length
  · have ha := h.2 _ (List.getElem_mem hlt)
    have hoa := okAnn_iff.1 ha
    have hza := zL_mem (z := zAnn) (List.getElem_mem hlt)
    have hzz := zAnn_eta xs[lx]
    have s1 := fvB_lin _ hoa.1
    have s2 := polyB_lin xs[lx].poly fun m hm => (okMono_iff.1 ((okPoly_iff.1 hoa.2).2 m hm)).1
    have b0 : (ByteArray.mk #[58, 32]).size = 2 := rfl
    have hlm : lx < (xs.map annB).length := by rw [List.length_map]; exact hlt
    have en : ((xs.map annB).take (lx + 1)).flatMap eS = ((xs.map annB).take lx).flatMap eS ++ [.sc (.string (fvB xs[lx].value ++ ⟨#[58, 32]⟩ ++ polyB xs[lx].poly))] := by rw [take_at hlm, List.flatMap_append, List.getElem_map]; rfl
    refine Run ((And.intro (And.intro @eAnn_eta @eVal_eta) (And.intro @ePoly_eta @hlt))) ?_; repeat' (first | (with_reducible exact True.intro) | (with_reducible refine Lf.mk ?_ ?_) | (with_reducible intro hb))
    refine Cal ((And.intro @eAnn_eta (And.intro @eVal_eta @ePoly_eta))) (specFV_ok xs[lx].value hoa.1 (by omega)) ?_
    refine Run ((And.intro (And.intro @eAnn_eta @eVal_eta) (And.intro @ePoly_eta @hlt))) ?_; repeat' (first | (with_reducible exact True.intro) | (with_reducible refine Lf.mk ?_ ?_) | (with_reducible intro hb))
    refine Cal ((And.intro @eAnn_eta (And.intro @eVal_eta @ePoly_eta))) (specPT_ok xs[lx].poly hoa.2) ?_
    refine Run ((And.intro (And.intro @eAnn_eta @eVal_eta) (And.intro @ePoly_eta @hlt))) ?_; repeat' (first | (with_reducible exact True.intro) | (with_reducible refine Lf.mk ?_ ?_) | (with_reducible intro hb))
    exact Nxt (@en) (lx + 1) (by omega) (by first | omega | (simp; omega))
  · have hlx : lx = xs.length := by omega
    have et : (xs.map annB).take lx = xs.map annB := List.take_of_length_le (by rw [List.length_map]; omega)
    have hj := specJoin_ok (xs.map annB) ⟨#[59, 32]⟩ (by rw [List.length_map]; omega) (by omega)
    have hsl : slT eS (xs.map annB) = .c (.im (.sl lx ((xs.map annB).flatMap eS))) := by rw [hlx, show xs.length = (xs.map annB).length by rw [List.length_map]]; rfl
    rw [hsl] at hj
    have e : joinB (xs.map annB) ⟨#[59, 32]⟩ = provB xs := rfl
    refine Run ((And.intro @hlt @et)) ?_; repeat' (first | (with_reducible exact True.intro) | (with_reducible refine Lf.mk ?_ ?_) | (with_reducible intro hb))
    refine Cal (cast_succ) (hj) ?_
    refine Run (@e) ?_; repeat' (first | (with_reducible exact True.intro) | (with_reducible refine Lf.mk ?_ ?_) | (with_reducible intro hb))
def fc36A62 := (And.intro (And.intro (And.intro (And.intro sz4 (And.intro ag4 zv4)) (And.intro un4 (And.intro sz9 ag9))) (And.intro (And.intro zv9 (And.intro un9 sz68)) (And.intro ag68 (And.intro zv68 fl68_0)))) (And.intro (And.intro (And.intro fl68_1 (And.intro fl68_2 fl68_3)) (And.intro pl68 (And.intro sz95 ag95))) (And.intro (And.intro zv95 (And.intro un95 okf55)) (And.intro (And.intro okf56 sz3) (And.intro sz51 sz66)))))
theorem implFV_of (b : Nat) (x : Obj) (v : Val) (h : okVal (2^20) v) (hz : zVal v ≤ 2^20) (HF : ∀ n, ok64 n → FnS Tryd.prog 23 [(1, .gl b x)] [iT n] [(1, .gl b x)] (sT (fmtB n))) : FnS Tryd.prog 36 [(1, .gl b x)] [agT (eVal v)] [(1, .gl b x)] (sT (fvB v)) := by
  refine FnS.go [0, 1, 2, 5] [] Tryd.func36 rfl (fun kt kz => ?_)
  have fcx := fc36A62
  simp only [Tryd.f36]
  refine Run ((eVal_eta v)) ?_; repeat' (first | (with_reducible exact True.intro) | (with_reducible refine Lf.mk ?_ ?_) | (with_reducible intro hb))
  refine Cal ((eVal_eta v)) (implVal_ok v h hz) ?_
  by_cases hv : ValOk v
  · have gv := eq_true hv
    have e : fvB v = valB v := if_pos hv
    have ht := valText_ok b x v h hz hv.2 [] HF
    rw [List.append_nil] at ht
    refine Run ((And.intro (eVal_eta v) @gv)) ?_; repeat' (first | (with_reducible exact True.intro) | (with_reducible refine Lf.mk ?_ ?_) | (with_reducible intro hb))
    refine CallG.frz1 2 rfl ?_
    simp -dsimp (maxSteps := 2000000) (disch := omega) only [vs, ↓Option.bind_some, ev1, ofV, scalarB, Kn, Kb, calleeOf, evLoad, ptr, evField, evFieldAddr, shift, ↓pt_at, ↓pt_at1, evExtract, evBin, evLen, evConv, cellsT, noS, Cell.has, Cell.hasN, Cell.anyN, toIV, toIV0, toIVs, ownC, srcM, Ob.own, Ob.esz, allSc, nilK, lenC, ownCell, isPtr, ptrNil, frzO, Cell.frz, Cell.keys, ↓reduceIte, reduceCtorEq, Nat.reduceEqDiff, Nat.reduceBEq, Nat.reduceBNe, Nat.reduceAdd, Nat.reduceMul, Nat.reduceSub, Nat.reduceLT, Nat.reduceLeDiff, Nat.reducePow, Int.reduceLT, Int.reduceLE, Int.reduceEq, Int.reduceNe, quietB, Nat.reduceMod, Int.reduceToNat, ne_eq, eq_self, exists_const, evBytes, byRow, byL, byStr_size, ifsz, ByteArray.size_append, Option.none_or, Option.some_or, evLook, keyD, fc36A62, (eVal_eta v)]
    refine CalO ((eVal_eta v)) (ht) ?_
    refine Run (@e) ?_; repeat' (first | (with_reducible exact True.intro) | (with_reducible refine Lf.mk ?_ ?_) | (with_reducible intro hb))
  · have gv := eq_false hv
    have e : fvB v = ⟨#[]⟩ := if_neg hv
    refine Run ((And.intro (eVal_eta v) (And.intro @gv @e))) ?_; repeat' (first | (with_reducible exact True.intro) | (with_reducible refine Lf.mk ?_ ?_) | (with_reducible intro hb))

end Go.VC.T
/- Annotated values as texts: the program under the library's table; the law. -/
namespace Go.VC.T
open Go Go.VC Go.Proofs Go.VC.F
set_option linter.unusedSimpArgs false
set_option linter.unusedVariables false
set_option linter.defProp false
set_option maxRecDepth 100000
set_option maxHeartbeats 2000000
def fc20A63 := (And.intro (And.intro (And.intro (And.intro (And.intro sz3 ag3) (And.intro zv3 (And.intro un3 sz9))) (And.intro (And.intro ag9 (And.intro zv9 un9)) (And.intro sz37 (And.intro ag37 zv37)))) (And.intro (And.intro (And.intro fl37_0 (And.intro pl37 sz44)) (And.intro ag44 (And.intro zv44 sb44))) (And.intro (And.intro un44 (And.intro el44 ap44)) (And.intro sz51 (And.intro ag51 zv51))))) (And.intro (And.intro (And.intro (And.intro sb51 un51) (And.intro el51 (And.intro ap51 sz68))) (And.intro (And.intro ag68 (And.intro zv68 fl68_0)) (And.intro fl68_1 (And.intro fl68_2 fl68_3)))) (And.intro (And.intro (And.intro pl68 (And.intro sz70 ag70)) (And.intro zv70 (And.intro fl70_0 fl70_1))) (And.intro (And.intro pl70 (And.intro okf15 okf31)) (And.intro okf36 (And.intro sz35 sz66))))))
theorem implProv_of (b : Nat) (x : Obj) (xs : List Ann) (h : okLs (2^20) okAnn xs) (hz : zL zAnn xs ≤ 2^20) (HF : ∀ n, ok64 n → FnS Tryd.prog 23 [(1, .gl b x)] [iT n] [(1, .gl b x)] (sT (fmtB n))) : FnS Tryd.prog 20 [(1, .gl b x)] [slT eAnn xs] [(1, .gl b x)] (sT (provB xs)) := by
  refine FnS.go [0, 2, 3, 5, 7, 8, 9, 10] [] Tryd.func20 rfl (fun kt kz => ?_)
  have fcx := fc20A63
  simp only [Tryd.f20]
  have hl := h.1
  have hlin := prov_lin xs h.2
  refine Run (cast_succ) ?_; repeat' (first | (with_reducible exact True.intro) | (with_reducible refine Lf.mk ?_ ?_) | (with_reducible intro hb))
  refine Trn (α := Nat) [3, 5, 9, 10, 11, 12, 13, 14, 15, 16, 17, 18, 19, 20, 21, 22, 23, 24] (fun i => [(9, iT i), (3, .c (.os 12 i))]) (fun i => [(1, .gl b x), (12, .vec 9 1 i (((xs.map annB).take i).flatMap eS) true)]) (fun i => i ≤ xs.length) (fun i => xs.length - i) (0) (Nat.zero_le _) (cast_succ) ?_; intro lx hI; obtain i := lx; (try simp only [List.nil_append, List.cons_append] at hI ⊢)
  by_cases hlt : lx < xs.length
  · have ha := h.2 _ (List.getElem_mem hlt)
    have hoa := okAnn_iff.1 ha
    have hza := zL_mem (z := zAnn) (List.getElem_mem hlt)
    have hzz := zAnn_eta xs[lx]
    have s1 := fvB_lin _ hoa.1
    have s2 := polyB_lin xs[lx].poly fun m hm => (okMono_iff.1 ((okPoly_iff.1 hoa.2).2 m hm)).1
    have b0 : (ByteArray.mk #[58, 32]).size = 2 := rfl
    have hlm : lx < (xs.map annB).length := by rw [List.length_map]; exact hlt
    have en : ((xs.map annB).take (lx + 1)).flatMap eS = ((xs.map annB).take lx).flatMap eS ++ [.sc (.string (fvB xs[lx].value ++ ⟨#[58, 32]⟩ ++ polyB xs[lx].poly))] := by rw [take_at hlm, List.flatMap_append, List.getElem_map]; rfl
    refine Run ((And.intro (And.intro @eAnn_eta @eVal_eta) (And.intro @ePoly_eta @hlt))) ?_; repeat' (first | (with_reducible exact True.intro) | (with_reducible refine Lf.mk ?_ ?_) | (with_reducible intro hb))
    refine CalO ((And.intro @eAnn_eta (And.intro @eVal_eta @ePoly_eta))) (implFV_of b x xs[lx].value hoa.1 (by omega) HF) ?_
    refine Run ((And.intro (And.intro @eAnn_eta @eVal_eta) (And.intro @ePoly_eta @hlt))) ?_; repeat' (first | (with_reducible exact True.intro) | (with_reducible refine Lf.mk ?_ ?_) | (with_reducible intro hb))
    refine CalO ((And.intro @eAnn_eta (And.intro @eVal_eta @ePoly_eta))) (implPT_of b x xs[lx].poly hoa.2 HF) ?_
    refine Run ((And.intro (And.intro @eAnn_eta @eVal_eta) (And.intro @ePoly_eta @hlt))) ?_; repeat' (first | (with_reducible exact True.intro) | (with_reducible refine Lf.mk ?_ ?_) | (with_reducible intro hb))
    exact Nxt (@en) (lx + 1) (by omega) (by first | omega | (simp; omega))
  · have hlx : lx = xs.length := by omega
    have et : (xs.map annB).take lx = xs.map annB := List.take_of_length_le (by rw [List.length_map]; omega)
    have hjs := joinB_jz ⟨#[59, 32]⟩ (xs.map annB)
    have hj := sjoin_q (xs.map annB) ⟨#[59, 32]⟩ (by rw [List.length_map]; omega) (by omega) 12
    rw [List.length_map, ← hlx] at hj
    have e : joinB (xs.map annB) ⟨#[59, 32]⟩ = provB xs := rfl
    refine Run ((And.intro @hlt @et)) ?_; repeat' (first | (with_reducible exact True.intro) | (with_reducible refine Lf.mk ?_ ?_) | (with_reducible intro hb))
    refine CalO (cast_succ) (hj) ?_
    refine Run (@e) ?_; repeat' (first | (with_reducible exact True.intro) | (with_reducible refine Lf.mk ?_ ?_) | (with_reducible intro hb))
def fc6A63 := (And.intro (And.intro (And.intro (And.intro sz3 (And.intro ag3 zv3)) (And.intro (And.intro un3 sz4) (And.intro ag4 zv4))) (And.intro (And.intro (And.intro un4 sz9) (And.intro ag9 zv9)) (And.intro (And.intro un9 sz41) (And.intro ag41 zv41)))) (And.intro (And.intro (And.intro (And.intro sb41 un41) (And.intro el41 ap41)) (And.intro (And.intro sz44 ag44) (And.intro zv44 sb44))) (And.intro (And.intro (And.intro un44 el44) (And.intro ap44 okf17)) (And.intro (And.intro okf18 okf19) (And.intro okf20 okf21)))))
theorem provText_law (b : Nat) (x : Obj) (a : List Ann) (ha : okLs (2^48) okAnn a) (H : ∀ n, ok64 n → FnS Tryd.prog 38 [(1, .gl b x)] [iT n] [(1, .gl b x)] (sT (fmtB n))) : FnS Tryd.prog 6 [(1, .gl b x)] [slT eAnn a] [(1, .gl b x)] (bT true) := by
  refine FnS.go [0, 2, 3, 4, 5, 6, 11, 21, 26] [] Tryd.func6 rfl (fun kt kz => ?_)
  have fcx := fc6A63
  simp only [Tryd.f6]
  refine Run (cast_succ) ?_; repeat' (first | (with_reducible exact True.intro) | (with_reducible refine Lf.mk ?_ ?_) | (with_reducible intro hb))
  refine Cal (cast_succ) (szAnnotatedS_ok a ha 1048576 ⟨by omega, by omega⟩) ?_
  refine Run (cast_succ) ?_; repeat' (first | (with_reducible exact True.intro) | (with_reducible refine Lf.mk ?_ ?_) | (with_reducible intro hb))
  have h1 := szR_spec (zL zAnn a) 1048576
  have hz : zL zAnn a ≤ 2^20 := by omega
  have ha' : okLs (2^20) okAnn a := ⟨by have := zL_len (z := zAnn) (l := a); omega, fun y hy => okAnn_down (ha.2 y hy) (by have := zL_mem (z := zAnn) hy; omega)⟩
  have hta := toAnnotatedS_ok a ha'
  refine CalI (cast_succ) (hta) ?_
  refine Run (cast_succ) ?_; repeat' (first | (with_reducible exact True.intro) | (with_reducible refine Lf.mk ?_ ?_) | (with_reducible intro hb))
  refine Cal (cast_succ) (specProv_ok a ha' hz) ?_
  refine Run (cast_succ) ?_; repeat' (first | (with_reducible exact True.intro) | (with_reducible refine Lf.mk ?_ ?_) | (with_reducible intro hb))
  refine CalI (cast_succ) (hta) ?_
  refine Run (cast_succ) ?_; repeat' (first | (with_reducible exact True.intro) | (with_reducible refine Lf.mk ?_ ?_) | (with_reducible intro hb))
  refine CalO (cast_succ) (implProv_of b x a ha' hz (fun n hn => implFmt_of b x n hn (H n hn))) ?_
  refine Run (cast_succ) ?_; repeat' (first | (with_reducible exact True.intro) | (with_reducible refine Lf.mk ?_ ?_) | (with_reducible intro hb))
  refine CalI (cast_succ) (hta) ?_
  refine Run (cast_succ) ?_; repeat' (first | (with_reducible exact True.intro) | (with_reducible refine Lf.mk ?_ ?_) | (with_reducible intro hb))
  refine Cal (cast_succ) (eqAnnotatedS_ok a ha') ?_
  refine Run (cast_succ) ?_; repeat' (first | (with_reducible exact True.intro) | (with_reducible refine Lf.mk ?_ ?_) | (with_reducible intro hb))

end Go.VC.T
/- strconv.Itoa's contract at the seat of round r4 (printed by the kit's tool; to be printed anew at another seat: itoa.sh). -/
namespace Go.Proofs
open Go.Shelf
def Tryd.laysM171_ren : Go.Shelf.Ren := ⟨fun | 171 => 38 | 243 => 58 | 246 => 79 | 283 => 89 | 284 => 90 | 285 => 91 | 286 => 92 | 129 => 100 | 317 => 99 | 318 => 101 | 319 => 102 | 320 => 103 | 337 => 107 | 338 => 108 | n => n, fun | 3 => 3 | 9 => 9 | 2 => 2 | 4 => 4 | 171 => 119 | 0 => 0 | 53 => 120 | 37 => 73 | 5 => 5 | 173 => 123 | 212 => 127 | 51 => 128 | 20 => 20 | 213 => 129 | 46 => 131 | 232 => 136 | 233 => 137 | n => n, fun | 17 => 1 | 18 => 2 | 19 => 3 | n => n⟩
theorem Tryd.laysM171 : Go.Proofs.LaysM.n171 Tryd.prog Tryd.laysM171_ren := {
  mixed := by kernel_rfl
  f129 := Tryd.func100.trans (congrArg some (by kernel_rfl))
  f171 := Tryd.func38.trans (congrArg some (by kernel_rfl))
  f243 := Tryd.func58.trans (congrArg some (by kernel_rfl))
  f246 := Tryd.func79.trans (congrArg some (by kernel_rfl))
  f283 := Tryd.func89.trans (congrArg some (by kernel_rfl))
  f284 := Tryd.func90.trans (congrArg some (by kernel_rfl))
  f285 := Tryd.func91.trans (congrArg some (by kernel_rfl))
  f286 := Tryd.func92.trans (congrArg some (by kernel_rfl))
  f317 := Tryd.func99.trans (congrArg some (by kernel_rfl))
  f318 := Tryd.func101.trans (congrArg some (by kernel_rfl))
  f319 := Tryd.func102.trans (congrArg some (by kernel_rfl))
  f320 := Tryd.func103.trans (congrArg some (by kernel_rfl))
  f337 := Tryd.func107.trans (congrArg some (by kernel_rfl))
  f338 := Tryd.func108.trans (congrArg some (by kernel_rfl))
  t0 := Tryd.underlying0
  a0 := Tryd.isAgg0
  z0 := Tryd.sizeOf0
  v0 := Tryd.zeroValue0
  t2 := Tryd.underlying2
  a2 := Tryd.isAgg2
  z2 := Tryd.sizeOf2
  v2 := Tryd.zeroValue2
  t3 := Tryd.underlying3
  a3 := Tryd.isAgg3
  z3 := Tryd.sizeOf3
  v3 := Tryd.zeroValue3
  t4 := Tryd.underlying4
  a4 := Tryd.isAgg4
  z4 := Tryd.sizeOf4
  v4 := Tryd.zeroValue4
  t5 := Tryd.underlying5
  a5 := Tryd.isAgg5
  z5 := Tryd.sizeOf5
  v5 := Tryd.zeroValue5
  t9 := Tryd.underlying9
  a9 := Tryd.isAgg9
  z9 := Tryd.sizeOf9
  v9 := Tryd.zeroValue9
  t20 := Tryd.underlying20
  a20 := Tryd.isAgg20
  z20 := Tryd.sizeOf20
  v20 := Tryd.zeroValue20
  t37 := Tryd.underlying73
  a37 := Tryd.isAgg73
  z37 := Tryd.sizeOf73
  v37 := Tryd.zeroValue73
  t46 := Tryd.underlying131
  a46 := Tryd.isAgg131
  z46 := Tryd.sizeOf131
  v46 := Tryd.zeroValue131
  t51 := Tryd.underlying128
  a51 := Tryd.isAgg128
  z51 := Tryd.sizeOf128
  v51 := Tryd.zeroValue128
  t53 := Tryd.underlying120
  a53 := Tryd.isAgg120
  z53 := Tryd.sizeOf120
  v53 := Tryd.zeroValue120
  t171 := Tryd.underlying119
  a171 := Tryd.isAgg119
  z171 := Tryd.sizeOf119
  v171 := Tryd.zeroValue119
  t173 := Tryd.underlying123
  a173 := Tryd.isAgg123
  z173 := Tryd.sizeOf123
  v173 := Tryd.zeroValue123
  t212 := Tryd.underlying127
  a212 := Tryd.isAgg127
  z212 := Tryd.sizeOf127
  v212 := Tryd.zeroValue127
  t213 := Tryd.underlying129
  a213 := Tryd.isAgg129
  z213 := Tryd.sizeOf129
  t232 := Tryd.underlying136
  a232 := Tryd.isAgg136
  z232 := Tryd.sizeOf136
  v232 := Tryd.zeroValue136
  t233 := Tryd.underlying137
  a233 := Tryd.isAgg137
  z233 := Tryd.sizeOf137
  v233 := Tryd.zeroValue137
  g17 := by kernel_rfl
  g18 := by kernel_rfl
  g19 := by kernel_rfl
  i0 := by kernel_rfl
  i2 := by kernel_rfl
  i3 := by kernel_rfl
  i4 := by kernel_rfl
  i5 := by kernel_rfl
  i9 := by kernel_rfl
  i20 := by kernel_rfl
  i37 := by kernel_rfl
  i46 := by kernel_rfl
  i51 := by kernel_rfl
  i53 := by kernel_rfl
  i171 := by kernel_rfl
  i173 := by kernel_rfl
  i212 := by kernel_rfl
  i232 := by kernel_rfl
  i233 := by kernel_rfl
  m17 := by kernel_rfl
  m18 := by kernel_rfl
  m19 := by kernel_rfl }
open Go.RowKit Go.Sort Go.Lib in
theorem Tryd.strconv_Itoa (n : Int) (h0 : -9223372036854775808 ≤ n) (h1 : n ≤ 9223372036854775807) (w : World) (htab : Lib.TabIs Tryd.prog w "internal/strconv.uint64pow10" .u64 Lib.pow10Tab) :
    Calls Tryd.prog 38 #[.int .i64 n] w fun e w' => e = .returned (.string ⟨(Lib.itoa n).toArray⟩) ∧ ∃ k os, w' = grow (w.drewN k) os := Any.strconv_Itoa Tryd.laysM171 n h0 h1 w htab
end Go.Proofs
/- The tables of the library's as its text lays them; a number's text by the library. -/
namespace Go.Proofs.YtednmgjookkcnaaDoor
open Go.VC
set_option linter.unusedVariables false
def tab32 : List Int := [0, 1, 28, 2, 29, 14, 24, 3, 30, 22, 20, 15, 25, 17, 4, 8, 31, 27, 13, 23, 21, 19, 16, 7, 26, 12, 18, 6, 11, 5, 10, 9]
def tab64 : List Int := [0, 1, 56, 2, 57, 49, 28, 3, 61, 58, 42, 50, 38, 29, 17, 4, 62, 47, 59, 36, 45, 43, 51, 22, 53, 39, 33, 30, 24, 18, 12, 5, 63, 55, 48, 27, 60, 41, 37, 16, 46, 35, 44, 21, 52, 32, 23, 11, 54, 26, 40, 15, 34, 20, 31, 10, 25, 14, 19, 9, 13, 8, 7, 6]
/-- A world in which the tables lie. -/
noncomputable def laidWorld (os : Os) : World :=
  let w0 := World.holding Tryd.prog os ⟨#[], #[], []⟩
  { w0 with heap := ((w0.heap.modify 1 fun
      | .cells _ t frozen => .cells (Lib.pow10Tab.map fun z => Value.int .u64 z).toArray t frozen
      | o => o).modify 2 fun
      | .cells _ t frozen => .cells (tab32.map fun z => Value.int .u8 z).toArray t frozen
      | o => o).modify 3 fun
      | .cells _ t frozen => .cells (tab64.map fun z => Value.int .u8 z).toArray t frozen
      | o => o }
abbrev laid3 : List (String × DataW Unit) := [("math/bits.deBruijn32tab", Rows.laid_math_bits_deBruijn32tab), ("math/bits.deBruijn64tab", Rows.laid_math_bits_deBruijn64tab), ("internal/strconv.uint64pow10", Rows.laid_internal_strconv_uint64pow10)]
theorem laidWorld_met (os : Os) (args : Array Value) : laidMet Tryd.prog laid3 ((laidWorld os).forCall (fun _ _ => 0) ⟨#[], args, []⟩).memory :=
  laidMet_of_run3 8 (by kernel_rfl) (by kernel_rfl) (by kernel_rfl)
theorem gP : Tryd.prog.globalNamed "internal/strconv.uint64pow10" = some 1 := by kernel_rfl
theorem gPT : (Tryd.prog.globals[1]?).map (·.type) = some 127 := by kernel_rfl
theorem tabSame : (Rows.laid_internal_strconv_uint64pow10 : DataW Unit) = Lib.tabData .u64 Lib.pow10Tab := by kernel_rfl
theorem tabIs {W : World} (h : laidMet Tryd.prog laid3 W) : Lib.TabIs Tryd.prog W "internal/strconv.uint64pow10" .u64 Lib.pow10Tab :=
  Lib.tabIs_of_head gP gPT Tryd.underlying127 Tryd.underlying120 (by kernel_rfl) (by kernel_rfl) (tabSame ▸ h.tail.tail)
/-- The table's block. -/
def isTab (x : Obj) : Prop := ∃ t fr, x = .cells (Lib.pow10Tab.map fun z => Value.int .u64 z).toArray t fr
theorem tabBlock {W : World} (h : laidMet Tryd.prog laid3 W) : ∃ x, W.heap[1]? = some x ∧ isTab x := by
  have ht := tabIs h
  unfold Lib.TabIs World.var? at ht
  rw [gP] at ht
  simp only [Option.bind_some] at ht
  split at ht
  · rename_i cs t fr hc
    obtain rfl := Option.some.inj ht
    exact ⟨_, hc, _, _, rfl⟩
  · cases ht
theorem tabOf {w : World} {x : Obj} (h : isTab x) (hw : w.heap[1]? = some x) : Lib.TabIs Tryd.prog w "internal/strconv.uint64pow10" .u64 Lib.pow10Tab := by
  obtain ⟨t, fr, rfl⟩ := h
  unfold Lib.TabIs World.var?
  rw [gP]
  simp only [Option.bind_some, hw]
/-- strconv.Itoa, under the table. -/
theorem itoaG {x : Obj} (h : isTab x) (n : Int) (hn : ok64 n) : FnS Tryd.prog 38 [(1, .gl 1 x)] [iT n] [(1, .gl 1 x)] (sT (fmtB n)) := by
  rw [fmtB_itoa]
  exact FnS.shelf1 fun w hw => Tryd.strconv_Itoa n hn.1 hn.2 w (tabOf h hw)
end Go.Proofs.YtednmgjookkcnaaDoor
