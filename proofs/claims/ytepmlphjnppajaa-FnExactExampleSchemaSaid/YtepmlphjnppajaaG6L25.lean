/- The program's reader of texts: what comes next, taken, needed; runs of bytes; names. -/
import Derived.Test.YtepmlphjnppajaaG5L25
import Derived.Test.YtepmlphjnppajaaGW4
import Derived.Test.YtepmlphjnppajaaGW3
import Derived.Lib.ItoaNum
import Derived.Lib.Join
import Derived.Shelf.Strings.OnBuilder
import Derived.Ground.Names2Prog
import Derived.Test.YtepmlphjnppajaaProg
namespace Go.VC
open Go
/-- Does t come next? -/
def nextB (s : ByteArray) (at_ : Nat) (bad : Bool) (t : ByteArray) : Bool := !bad && decide (t.size ≤ (s.extract at_ s.size).size ∧ (s.extract at_ s.size).extract 0 t.size = t)
theorem nextB_bad {s t : ByteArray} {p : Nat} : nextB s p true t = false := rfl
theorem nextB_fits {s t : ByteArray} {p : Nat} {b : Bool} (h : nextB s p b t = true) (hp : p ≤ s.size) : p + t.size ≤ s.size := by
  unfold nextB at h
  simp only [Bool.and_eq_true, decide_eq_true_eq, ByteArray.size_extract] at h
  omega
def takeP (s : ByteArray) (p : Nat) (b : Bool) (t : ByteArray) : Nat := if nextB s p b t = true then p + t.size else p
theorem takeP_le {s t : ByteArray} {p : Nat} {b : Bool} (hp : p ≤ s.size) : takeP s p b t ≤ s.size := by
  unfold takeP
  split
  · rename_i h; exact nextB_fits h hp
  · exact hp
theorem takeP_ge {s t : ByteArray} {p : Nat} {b : Bool} : p ≤ takeP s p b t := by unfold takeP; split <;> omega
/-- The end of the run of bytes with a property. -/
def runP (f : Int → Bool) (s : ByteArray) : Nat → Nat → Nat
  | 0, p => p
  | n + 1, p => if p < s.size ∧ f (bt s p) = true then runP f s n (p + 1) else p
theorem runP_le (f : Int → Bool) (s : ByteArray) : ∀ (n p : Nat), p ≤ s.size → runP f s n p ≤ s.size
  | 0, p, h => h
  | n + 1, p, h => by
    rw [runP]
    split
    · rename_i h1; exact runP_le f s n (p + 1) (by omega)
    · exact h
theorem runP_ge (f : Int → Bool) (s : ByteArray) : ∀ (n p : Nat), p ≤ runP f s n p
  | 0, p => Nat.le_refl _
  | n + 1, p => by
    rw [runP]
    split
    · have := runP_ge f s n (p + 1); omega
    · exact Nat.le_refl _
theorem runP_stop {f : Int → Bool} {s : ByteArray} {n p : Nat} (h : ¬ (p < s.size ∧ f (bt s p) = true)) : runP f s n p = p := by
  cases n with
  | zero => rfl
  | succ n => rw [runP, if_neg h]
theorem runP_step {f : Int → Bool} {s : ByteArray} {p : Nat} (h : p < s.size) (hf : f (bt s p) = true) : runP f s (s.size - p) p = runP f s (s.size - (p + 1)) (p + 1) := by
  rw [show s.size - p = (s.size - (p + 1)) + 1 by omega, runP, if_pos ⟨h, hf⟩]
def wordC (c : Int) : Bool := decide (97 ≤ c ∧ c ≤ 122) || decide (48 ≤ c ∧ c ≤ 57)
/-- The end of a word; the word. -/
def wordP (s : ByteArray) (p : Nat) (b : Bool) : Nat := if b = true then p else runP wordC s (s.size - p) p
def wordS (s : ByteArray) (p : Nat) (b : Bool) : ByteArray := s.extract p (wordP s p b)
/-- The reader, as it stands in memory. -/
abbrev rdO (s : ByteArray) (p : Nat) (b : Bool) : List Cell := [.im (.sc (.string s)), .im (.sc (.int .i64 (p : Int))), .im (.sc (.bool b))]
end Go.VC
namespace Go.VC.T
open Go Go.VC Go.Proofs Go.VC.F
set_option linter.unusedSimpArgs false
set_option linter.unusedVariables false
set_option linter.defProp false
set_option maxRecDepth 100000
set_option maxHeartbeats 2000000
def fc241A70 := (And.intro (And.intro (And.intro sz3 (And.intro ag3 zv3)) (And.intro un3 (And.intro sz4 ag4))) (And.intro (And.intro zv4 (And.intro un4 sz9)) (And.intro ag9 (And.intro zv9 un9))))
theorem hasPre0_ok (s t : ByteArray) (hs : s.size ≤ 2^48) (ht : t.size ≤ 2^48) : FnS Try.prog 241 [] [sT s, sT t] [] (bT (decide (t.size ≤ s.size ∧ s.extract 0 t.size = t))) := by
  refine FnS.go [0, 1, 4] [] Try.func241 rfl (fun kt kz => ?_)
  have fcx := fc241A70
  simp only [Try.f241]
  by_cases h1 : (t.size : Int) ≤ (s.size : Int)
  · have g1 := eq_true h1
    have e : decide (t.size ≤ s.size ∧ s.extract 0 t.size = t) = decide (s.extract 0 t.size = t) := decide_eq_decide.2 ⟨fun h => h.2, fun h => ⟨by omega, h⟩⟩
    refine Run ((And.intro @g1 @e)) ?_; repeat' (first | (with_reducible exact True.intro) | (with_reducible refine Lf.mk ?_ ?_) | (with_reducible intro hb))
  · have g1 := eq_false h1
    have e : decide (t.size ≤ s.size ∧ s.extract 0 t.size = t) = false := decide_eq_false fun h => by have := h.1; omega
    refine Run ((And.intro @g1 @e)) ?_; repeat' (first | (with_reducible exact True.intro) | (with_reducible refine Lf.mk ?_ ?_) | (with_reducible intro hb))
def fc234A70 := (And.intro (And.intro (And.intro sz4 ag4) (And.intro zv4 un4)) (And.intro (And.intro sz9 ag9) (And.intro zv9 (And.intro un9 okf241))))
theorem hasPre_ok (s t : ByteArray) (hs : s.size ≤ 2^48) (ht : t.size ≤ 2^48) : FnS Try.prog 234 [] [sT s, sT t] [] (bT (decide (t.size ≤ s.size ∧ s.extract 0 t.size = t))) := by
  refine FnS.go [0, 1, 4] [] Try.func234 rfl (fun kt kz => ?_)
  have fcx := fc234A70
  simp only [Try.f234]
  refine Run (cast_succ) ?_; repeat' (first | (with_reducible exact True.intro) | (with_reducible refine Lf.mk ?_ ?_) | (with_reducible intro hb))
  refine Cal (cast_succ) (hasPre0_ok s t hs ht) ?_
  refine Run (cast_succ) ?_; repeat' (first | (with_reducible exact True.intro) | (with_reducible refine Lf.mk ?_ ?_) | (with_reducible intro hb))
def fc224A70 := (And.intro (And.intro (And.intro (And.intro sz3 (And.intro ag3 zv3)) (And.intro un3 (And.intro sz4 ag4))) (And.intro (And.intro zv4 (And.intro un4 sz9)) (And.intro ag9 (And.intro zv9 un9)))) (And.intro (And.intro (And.intro sz216 (And.intro ag216 zv216)) (And.intro fl216_0 (And.intro fl216_1 fl216_2))) (And.intro (And.intro pl216 (And.intro sz248 ag248)) (And.intro zv248 (And.intro un248 okf234)))))
theorem rdIs_ok (s t : ByteArray) (hs : s.size ≤ 2^48) (ht : t.size ≤ 2^48) (p : Nat) (hp : p ≤ s.size) (b : Bool) : FnS Try.prog 224 [(1, .box 216 (rdO s p b))] [.c (.rf 1 0), sT t] [(1, .box 216 (rdO s p b))] (bT (nextB s p b t)) := by
  refine FnS.go [0, 1, 4] [] Try.func224 rfl (fun kt kz => ?_)
  have fcx := fc224A70
  simp only [Try.f224]
  have hx : (s.extract p s.size).size ≤ 2^48 := by rw [ByteArray.size_extract]; omega
  cases b with
  | true =>
    have e : nextB s p true t = false := rfl
    refine Run (@e) ?_; repeat' (first | (with_reducible exact True.intro) | (with_reducible refine Lf.mk ?_ ?_) | (with_reducible intro hb))
  | false =>
    have e : decide (t.size ≤ (s.extract p s.size).size ∧ (s.extract p s.size).extract 0 t.size = t) = nextB s p false t := rfl
    have c : ((p : Int) ≤ (s.size : Int) ∧ (s.size : Int) ≤ (s.size : Int)) = True := eq_true ⟨by omega, by omega⟩
    refine Run (@c) ?_; repeat' (first | (with_reducible exact True.intro) | (with_reducible refine Lf.mk ?_ ?_) | (with_reducible intro hb))
    refine Cal (cast_succ) (hasPre_ok (s.extract p s.size) t hx ht) ?_
    refine Run (@e) ?_; repeat' (first | (with_reducible exact True.intro) | (with_reducible refine Lf.mk ?_ ?_) | (with_reducible intro hb))
def fc204A70 := (And.intro (And.intro (And.intro (And.intro sz3 (And.intro ag3 zv3)) (And.intro un3 (And.intro sz4 ag4))) (And.intro (And.intro zv4 (And.intro un4 sz9)) (And.intro ag9 (And.intro zv9 un9)))) (And.intro (And.intro (And.intro sz216 (And.intro ag216 zv216)) (And.intro fl216_0 (And.intro fl216_1 fl216_2))) (And.intro (And.intro pl216 (And.intro sz248 ag248)) (And.intro zv248 (And.intro un248 okf224)))))
theorem rdTake_ok (s t : ByteArray) (hs : s.size ≤ 2^48) (ht : t.size ≤ 2^48) (p : Nat) (hp : p ≤ s.size) (b : Bool) : FnS Try.prog 204 [(1, .box 216 (rdO s p b))] [.c (.rf 1 0), sT t] [(1, .box 216 (rdO s (takeP s p b t) b))] (bT (nextB s p b t)) := by
  refine FnS.go [0, 1, 4, 8] [] Try.func204 rfl (fun kt kz => ?_)
  have fcx := fc204A70
  simp only [Try.f204]
  refine Run (cast_succ) ?_; repeat' (first | (with_reducible exact True.intro) | (with_reducible refine Lf.mk ?_ ?_) | (with_reducible intro hb))
  refine CalO (cast_succ) (rdIs_ok s t hs ht p hp b) ?_
  cases hn : nextB s p b t with
  | true =>
    have e : takeP s p b t = p + t.size := if_pos hn
    have hf := nextB_fits hn hp
    have ec : ((p : Int) + (t.size : Int)) = ((p + t.size : Nat) : Int) := by omega
    refine Run ((And.intro @hn (And.intro @e @ec))) ?_; repeat' (first | (with_reducible exact True.intro) | (with_reducible refine Lf.mk ?_ ?_) | (with_reducible intro hb))
  | false =>
    have e : takeP s p b t = p := if_neg (by rw [hn]; simp)
    refine Run ((And.intro @hn @e)) ?_; repeat' (first | (with_reducible exact True.intro) | (with_reducible refine Lf.mk ?_ ?_) | (with_reducible intro hb))
def fc207A70 := (And.intro (And.intro (And.intro (And.intro sz4 ag4) (And.intro zv4 (And.intro un4 sz9))) (And.intro (And.intro ag9 zv9) (And.intro un9 (And.intro sz216 ag216)))) (And.intro (And.intro (And.intro zv216 fl216_0) (And.intro fl216_1 (And.intro fl216_2 pl216))) (And.intro (And.intro sz248 (And.intro ag248 zv248)) (And.intro un248 (And.intro okf204 sz3)))))
theorem rdNeed_ok (s t : ByteArray) (hs : s.size ≤ 2^48) (ht : t.size ≤ 2^48) (p : Nat) (hp : p ≤ s.size) (b : Bool) : FnS Try.prog 207 [(1, .box 216 (rdO s p b))] [.c (.rf 1 0), sT t] [(1, .box 216 (rdO s (takeP s p b t) (!nextB s p b t)))] (.tp []) := by
  refine FnS.go [0, 1, 7] [] Try.func207 rfl (fun kt kz => ?_)
  have fcx := fc207A70
  simp only [Try.f207]
  refine Run (cast_succ) ?_; repeat' (first | (with_reducible exact True.intro) | (with_reducible refine Lf.mk ?_ ?_) | (with_reducible intro hb))
  refine CalO (cast_succ) (rdTake_ok s t hs ht p hp b) ?_
  cases hn : nextB s p b t with
  | true =>
    have hb : b = false := by cases b with | true => rw [nextB_bad] at hn; cases hn | false => rfl
    subst hb
    refine Run (@hn) ?_; repeat' (first | (with_reducible exact True.intro) | (with_reducible refine Lf.mk ?_ ?_) | (with_reducible intro hb))
  | false =>
    refine Run (@hn) ?_; repeat' (first | (with_reducible exact True.intro) | (with_reducible refine Lf.mk ?_ ?_) | (with_reducible intro hb))
def fc225A70 := (And.intro (And.intro (And.intro (And.intro sz3 (And.intro ag3 zv3)) (And.intro (And.intro un3 sz4) (And.intro ag4 zv4))) (And.intro (And.intro (And.intro un4 sz5) (And.intro ag5 zv5)) (And.intro (And.intro un5 sz9) (And.intro ag9 zv9)))) (And.intro (And.intro (And.intro un9 (And.intro sz216 ag216)) (And.intro (And.intro zv216 fl216_0) (And.intro fl216_1 fl216_2))) (And.intro (And.intro (And.intro pl216 sz229) (And.intro ag229 zv229)) (And.intro (And.intro sz248 ag248) (And.intro zv248 un248)))))
theorem rdRun_ok (s : ByteArray) (hs : s.size ≤ 2^48) (p : Nat) (hp : p ≤ s.size) (b : Bool) (g : Nat) (hg : fnOk Try.prog g = true) (f : Int → Bool) (H : ∀ c : Int, FnP Try.prog g [.c (.im (.sc (.int .u8 c)))] (bT (f c))) : FnS Try.prog 225 [(1, .box 216 (rdO s p b))] [.c (.rf 1 0), .c (.im (.fn g []))] [(1, .box 216 (rdO s (if b = true then p else runP f s (s.size - p) p) b))] (sT (s.extract p (if b = true then p else runP f s (s.size - p) p))) := by
  refine FnS.go [0, 1, 4, 5, 39] [] Try.func225 rfl (fun kt kz => ?_)
  have fcx := fc225A70
  simp only [Try.f225]
  cases b with
  | true =>
    have e1 : (if true = true then p else runP f s (s.size - p) p) = p := if_pos rfl
    have c : ((p : Int) ≤ (p : Int) ∧ (p : Int) ≤ (s.size : Int)) = True := eq_true ⟨by omega, by omega⟩
    rw [e1]
    refine Run (cast_succ) ?_; repeat' (first | (with_reducible exact True.intro) | (with_reducible refine Lf.mk ?_ ?_) | (with_reducible intro hb))
    refine Trn (α := Unit) [10, 11, 12, 13, 14, 15, 16, 17, 18, 19, 20, 21, 22, 23, 24, 25, 26, 27, 28, 29, 30, 31, 32, 33, 34, 35, 36, 37, 38, 39, 40, 41, 42, 43, 44, 45, 46] (fun u => []) (fun u => [(1, .box 216 (rdO s p true))]) (fun u => True) (fun u => 0) (()) (trivial) (cast_succ) ?_; intro lx hI; obtain u := lx; (try simp only [List.nil_append, List.cons_append] at hI ⊢)
    refine Run (@c) ?_; repeat' (first | (with_reducible exact True.intro) | (with_reducible refine Lf.mk ?_ ?_) | (with_reducible intro hb))
  | false =>
    have e1 : (if false = true then p else runP f s (s.size - p) p) = runP f s (s.size - p) p := if_neg (by simp)
    rw [e1]
    refine Run (cast_succ) ?_; repeat' (first | (with_reducible exact True.intro) | (with_reducible refine Lf.mk ?_ ?_) | (with_reducible intro hb))
    refine Trn (α := Nat) [10, 11, 12, 13, 14, 15, 16, 17, 18, 19, 20, 21, 22, 23, 24, 25, 26, 27, 28, 29, 30, 31, 32, 33, 34, 35, 36, 37, 38, 39, 40, 41, 42, 43, 44, 45, 46] (fun q => []) (fun q => [(1, .box 216 (rdO s q false))]) (fun q => p ≤ q ∧ q ≤ s.size ∧ runP f s (s.size - q) q = runP f s (s.size - p) p) (fun q => s.size - q) (p) (⟨Nat.le_refl _, hp, rfl⟩) (cast_succ) ?_; intro lx hI; obtain q := lx; (try simp only [List.nil_append, List.cons_append] at hI ⊢)
    by_cases hlt : lx < s.size
    · refine Run ((And.intro @hlt @hg)) ?_; repeat' (first | (with_reducible exact True.intro) | (with_reducible refine Lf.mk ?_ ?_) | (with_reducible intro hb))
      refine Cal (cast_succ) (H (bt s lx)) ?_
      cases hf : f (bt s lx) with
      | true =>
        refine Run (@hf) ?_; repeat' (first | (with_reducible exact True.intro) | (with_reducible refine Lf.mk ?_ ?_) | (with_reducible intro hb))
        exact Nxt (cast_succ) (lx + 1) (⟨by omega, by omega, by rw [← hI.2.2, runP_step hlt hf]⟩) (by first | omega | (simp; omega))
      | false =>
        have e2 : runP f s (s.size - p) p = lx := by rw [← hI.2.2, runP_stop (by rw [hf]; simp)]
        have c : ((p : Int) ≤ (lx : Int) ∧ (lx : Int) ≤ (s.size : Int)) = True := eq_true ⟨by omega, by omega⟩
        refine Run ((And.intro @hf (And.intro @e2 @c))) ?_; repeat' (first | (with_reducible exact True.intro) | (with_reducible refine Lf.mk ?_ ?_) | (with_reducible intro hb))
    · have e2 : runP f s (s.size - p) p = lx := by rw [← hI.2.2, runP_stop (fun h => hlt h.1)]
      have c : ((p : Int) ≤ (lx : Int) ∧ (lx : Int) ≤ (s.size : Int)) = True := eq_true ⟨by omega, by omega⟩
      refine Run ((And.intro @hlt (And.intro @e2 @c))) ?_; repeat' (first | (with_reducible exact True.intro) | (with_reducible refine Lf.mk ?_ ?_) | (with_reducible intro hb))
def fc226A70 := (And.intro (And.intro (And.intro sz4 ag4) (And.intro zv4 (And.intro un4 sz5))) (And.intro (And.intro ag5 zv5) (And.intro un5 (And.intro okf184 okf185))))
theorem nameC_ok (c : Int) : FnS Try.prog 226 [] [.c (.im (.sc (.int .u8 c)))] [] (bT (wordC c)) := by
  refine FnS.go [0, 2] [] Try.func226 rfl (fun kt kz => ?_)
  have fcx := fc226A70
  simp only [Try.f226]
  refine Run (cast_succ) ?_; repeat' (first | (with_reducible exact True.intro) | (with_reducible refine Lf.mk ?_ ?_) | (with_reducible intro hb))
  refine Cal (cast_succ) (isSmall_ok c) ?_
  by_cases h1 : 97 ≤ c ∧ c ≤ 122
  · have e : wordC c = true := by unfold wordC; rw [decide_eq_true h1]; rfl
    have g1 := eq_true h1
    refine Run ((And.intro @g1 @e)) ?_; repeat' (first | (with_reducible exact True.intro) | (with_reducible refine Lf.mk ?_ ?_) | (with_reducible intro hb))
  · have e : decide (48 ≤ c ∧ c ≤ 57) = wordC c := by unfold wordC; rw [decide_eq_false h1]; simp
    have g1 := eq_false h1
    refine Run (@g1) ?_; repeat' (first | (with_reducible exact True.intro) | (with_reducible refine Lf.mk ?_ ?_) | (with_reducible intro hb))
    refine Cal (cast_succ) (isDigit_ok c) ?_
    refine Run (@e) ?_; repeat' (first | (with_reducible exact True.intro) | (with_reducible refine Lf.mk ?_ ?_) | (with_reducible intro hb))
def fc209A70 := (And.intro (And.intro (And.intro (And.intro sz4 (And.intro ag4 zv4)) (And.intro un4 (And.intro sz9 ag9))) (And.intro (And.intro zv9 (And.intro un9 sz216)) (And.intro (And.intro ag216 zv216) (And.intro fl216_0 fl216_1)))) (And.intro (And.intro (And.intro fl216_2 (And.intro pl216 sz229)) (And.intro ag229 (And.intro zv229 sz248))) (And.intro (And.intro ag248 (And.intro zv248 un248)) (And.intro (And.intro okf154 okf225) (And.intro okf226 sz3)))))
theorem rdName_ok (s : ByteArray) (hs : s.size ≤ 2^48) (p : Nat) (hp : p ≤ s.size) (b : Bool) : FnS Try.prog 209 [(1, .box 216 (rdO s p b))] [.c (.rf 1 0)] [(1, .box 216 (rdO s (wordP s p b) (b || !decide (NameOk (wordS s p b)))))] (sT (wordS s p b)) := by
  refine FnS.go [0, 2, 3, 8] [] Try.func209 rfl (fun kt kz => ?_)
  have fcx := fc209A70
  simp only [Try.f209]
  have hg : fnOk Try.prog 226 = true := by decide +kernel
  have H := rdRun_ok s hs p hp b 226 hg wordC nameC_ok
  have e1 : (if b = true then p else runP wordC s (s.size - p) p) = wordP s p b := rfl
  have e2 : s.extract p (wordP s p b) = wordS s p b := rfl
  rw [e1, e2] at H
  have hws : (wordS s p b).size ≤ 2^48 := by unfold wordS; rw [ByteArray.size_extract]; omega
  refine Run (@hg) ?_; repeat' (first | (with_reducible exact True.intro) | (with_reducible refine Lf.mk ?_ ?_) | (with_reducible intro hb))
  refine CalO (cast_succ) (H) ?_
  refine Run (cast_succ) ?_; repeat' (first | (with_reducible exact True.intro) | (with_reducible refine Lf.mk ?_ ?_) | (with_reducible intro hb))
  refine Cal (cast_succ) (implName_ok (wordS s p b) hws) ?_
  by_cases hn : NameOk (wordS s p b)
  · have gn := eq_true hn
    have e : (b || !decide (NameOk (wordS s p b))) = b := by rw [decide_eq_true hn]; simp
    rw [e]
    refine Run (@gn) ?_; repeat' (first | (with_reducible exact True.intro) | (with_reducible refine Lf.mk ?_ ?_) | (with_reducible intro hb))
  · have gn := eq_false hn
    have e : (b || !decide (NameOk (wordS s p b))) = true := by rw [decide_eq_false hn]; simp
    rw [e]
    refine Run (@gn) ?_; repeat' (first | (with_reducible exact True.intro) | (with_reducible refine Lf.mk ?_ ?_) | (with_reducible intro hb))
def fc168A70 := (And.intro (And.intro (And.intro (And.intro sz3 ag3) (And.intro zv3 (And.intro un3 sz4))) (And.intro (And.intro ag4 (And.intro zv4 un4)) (And.intro sz9 (And.intro ag9 zv9)))) (And.intro (And.intro (And.intro un9 (And.intro sz216 ag216)) (And.intro zv216 (And.intro fl216_0 fl216_1))) (And.intro (And.intro fl216_2 (And.intro pl216 sz248)) (And.intro ag248 (And.intro zv248 un248)))))
theorem rdWhole_ok (s : ByteArray) (hs : s.size ≤ 2^48) (p : Nat) (b : Bool) : FnS Try.prog 168 [(1, .box 216 (rdO s p b))] [.c (.rf 1 0)] [(1, .box 216 (rdO s p b))] (bT (!b && decide (p = s.size))) := by
  refine FnS.go [0, 2] [] Try.func168 rfl (fun kt kz => ?_)
  have fcx := fc168A70
  simp only [Try.f168]
  cases b with
  | true => refine Run (cast_succ) ?_; repeat' (first | (with_reducible exact True.intro) | (with_reducible refine Lf.mk ?_ ?_) | (with_reducible intro hb))
  | false =>
    have e : decide ((p : Int) = (s.size : Int)) = decide (p = s.size) := decide_eq_decide.2 (by omega)
    refine Run (@e) ?_; repeat' (first | (with_reducible exact True.intro) | (with_reducible refine Lf.mk ?_ ?_) | (with_reducible intro hb))

end Go.VC.T
/- Types: how large and how deep they are, whether a kind occurs in them, their form: plain definitions. -/
namespace Go.VC
open Go
mutual
def tsz : Ty → Nat
  | .mk _ _ ws => 1 + tszL ws
def tszL : List Ty → Nat
  | [] => 0
  | a :: r => tsz a + tszL r
end
theorem tszL_eq : ∀ l : List Ty, tszL l = (l.map tsz).sum
  | [] => rfl
  | a :: r => by rw [tszL, tszL_eq r, List.map_cons, List.sum_cons]
def tszT (l : List Ty) (i : Nat) : Nat := ((l.take i).map tsz).sum
theorem tsz_eta (v : Ty) : tsz v = 1 + tszT v.args v.args.length := by
  cases v with
  | mk k ls ws => rw [tsz, tszL_eq]; unfold tszT; rw [show (Ty.mk k ls ws).args = ws from rfl, List.take_length]
theorem tszT_zero {l : List Ty} : tszT l 0 = 0 := by simp [tszT]
theorem tszT_succ {l : List Ty} {i : Nat} (h : i < l.length) : tszT l (i + 1) = tszT l i + tsz l[i] := by unfold tszT; rw [take_at h, List.map_append, List.sum_append]; simp
theorem tszT_le {l : List Ty} {i : Nat} : tszT l i ≤ tszT l l.length := by
  unfold tszT
  rw [List.take_length]
  conv => rhs; rw [← List.take_append_drop i l]
  rw [List.map_append, List.sum_append]
  omega
theorem tszT_all {l : List Ty} {i : Nat} (h : l.length ≤ i) : tszT l i = tszT l l.length := by unfold tszT; rw [List.take_length, List.take_of_length_le h]
mutual
theorem tsz_le : ∀ v : Ty, tsz v ≤ 1 + zTy v
  | .mk k ls ws => by
    have h := tszL_le ws
    rw [tsz, zTy_eta]
    show 1 + tszL ws ≤ 1 + (_ + zL zTy ws)
    omega
theorem tszL_le : ∀ l : List Ty, tszL l ≤ zL zTy l
  | [] => Nat.zero_le _
  | a :: r => by
    have h1 := tsz_le a
    have h2 := tszL_le r
    unfold zL at h2 ⊢
    rw [tszL, List.map_cons, List.sum_cons, List.length_cons]
    omega
end
theorem zTy_arg {v a : Ty} (h : a ∈ v.args) : zTy a ≤ zTy v := by
  have := zL_mem (z := zTy) h
  rw [zTy_eta v]
  omega
theorem ball_take {α : Type} {p : α → Prop} {l : List α} {i : Nat} (h : i < l.length) (ht : ∀ a ∈ l.take i, p a) (hi : p l[i]) : ∀ a ∈ l.take (i + 1), p a := fun a ha => by
  rw [take_at h, List.mem_append] at ha
  rcases ha with h1 | h1
  · exact ht a h1
  · rw [List.mem_singleton] at h1; subst h1; exact hi
theorem ball_end {α : Type} {p : α → Prop} {l : List α} {i : Nat} (h : l.length ≤ i) (ht : ∀ a ∈ l.take i, p a) : ∀ a ∈ l, p a := by rwa [List.take_of_length_le h] at ht
mutual
def tdp : Ty → Nat
  | .mk _ _ ws => 1 + tdpL ws
def tdpL : List Ty → Nat
  | [] => 0
  | a :: r => max (tdp a) (tdpL r)
end
theorem tdpL_app : ∀ (l m : List Ty), tdpL (l ++ m) = max (tdpL l) (tdpL m)
  | [], m => by simp [tdpL]
  | a :: r, m => by rw [List.cons_append, tdpL, tdpL, tdpL_app r m]; omega
theorem tdp_eta (v : Ty) : tdp v = 1 + tdpL v.args := by cases v; rw [tdp]; rfl
theorem tdpL_succ {l : List Ty} {i : Nat} (h : i < l.length) : tdpL (l.take (i + 1)) = max (tdpL (l.take i)) (tdp l[i]) := by rw [take_at h, tdpL_app]; simp [tdpL]
theorem tdpL_le : ∀ {l : List Ty} {n : Nat}, tdpL l ≤ n ↔ ∀ a ∈ l, tdp a ≤ n
  | [], n => by simp [tdpL]
  | a :: r, n => by rw [tdpL]; have := tdpL_le (l := r) (n := n); simp only [List.mem_cons, forall_eq_or_imp, ← this]; omega
mutual
theorem tdp_le : ∀ v : Ty, tdp v ≤ tsz v
  | .mk k ls ws => by have h := tdpLs_le ws; rw [tsz, tdp]; omega
theorem tdpLs_le : ∀ l : List Ty, tdpL l ≤ tszL l
  | [] => Nat.zero_le _
  | a :: r => by have h1 := tdp_le a; have h2 := tdpLs_le r; rw [tszL, tdpL]; omega
end
theorem tdpT_le (l : List Ty) (i : Nat) : tdpL (l.take i) ≤ tdpL l := by
  conv => rhs; rw [← List.take_append_drop i l, tdpL_app]
  omega
mutual
def tHas (k : Int) : Ty → Prop
  | .mk kd _ ws => kd = k ∨ tHasL k ws
def tHasL (k : Int) : List Ty → Prop
  | [] => False
  | a :: r => tHas k a ∨ tHasL k r
end
theorem tHasL_iff {k : Int} : ∀ {l : List Ty}, tHasL k l ↔ ∃ a ∈ l, tHas k a
  | [] => by simp [tHasL]
  | a :: r => by rw [tHasL, tHasL_iff (l := r)]; simp
theorem tHas_eta {k : Int} (t : Ty) : tHas k t ↔ t.kind = k ∨ ∃ a ∈ t.args, tHas k a := by
  cases t with
  | mk kd ls ws => rw [tHas, tHasL_iff]; rfl
noncomputable instance (k : Int) (t : Ty) : Decidable (tHas k t) := Classical.propDecidable _
def THd (t : Ty) : Prop := (t.kind = 3 ∧ t.args.length = t.labels.length ∧ LabsOk t.labels ∧ ¬ tHas 5 t) ∨ (t.kind = 4 ∧ t.args.length = 1 ∧ t.labels.length = 0 ∧ ¬ ∃ a ∈ t.args, tHas 5 a) ∨ ((t.kind = 1 ∨ t.kind = 2) ∧ t.labels.length = 0 ∧ t.args.length = 0) ∨ (t.kind = 5 ∧ t.labels.length = 0 ∧ t.args.length = 2)
noncomputable instance (t : Ty) : Decidable (THd t) := Classical.propDecidable _
mutual
def TF : Ty → Prop
  | .mk k ls ws => THd (.mk k ls ws) ∧ TFL ws
def TFL : List Ty → Prop
  | [] => True
  | a :: r => TF a ∧ TFL r
end
theorem TFL_iff : ∀ {l : List Ty}, TFL l ↔ ∀ a ∈ l, TF a
  | [] => by simp [TFL]
  | a :: r => by rw [TFL, TFL_iff (l := r)]; simp
theorem TF_eta (v : Ty) : TF v ↔ THd v ∧ ∀ a ∈ v.args, TF a := by
  cases v with
  | mk k ls ws => rw [TF, TFL_iff]; rfl
noncomputable instance (v : Ty) : Decidable (TF v) := Classical.propDecidable _
/-- Types that are right; data types; row types. -/
def TyOk (t : Ty) : Prop := tsz t ≤ 24 ∧ tdp t ≤ 7 ∧ TF t
noncomputable instance (v : Ty) : Decidable (TyOk v) := Classical.propDecidable _
def DataOk (t : Ty) : Prop := TyOk t ∧ ¬ tHas 5 t
noncomputable instance (v : Ty) : Decidable (DataOk v) := Classical.propDecidable _
def plainK (t : Ty) : Prop := t.kind = 1 ∨ t.kind = 2
noncomputable instance (v : Ty) : Decidable (plainK v) := Classical.propDecidable _
def RowOk' (t : Ty) : Prop := TyOk t ∧ t.kind = 3 ∧ ∀ a ∈ t.args, plainK a
noncomputable instance (v : Ty) : Decidable (RowOk' v) := Classical.propDecidable _
/-- What the program asks of a node. -/
def tMany (t : Ty) : Nat := if t.kind = 4 then 1 else if t.kind = 5 then 2 else if t.kind = 3 then t.labels.length else 0
def TFd (t : Ty) (p : Prop) (deep : Int) : Prop := TF t ∧ (p → ¬ tHas 5 t) ∧ deep + tdp t ≤ 8
noncomputable instance (t : Ty) (p : Prop) (d : Int) : Decidable (TFd t p d) := Classical.propDecidable _
def TNd (t : Ty) (p : Prop) (deep : Int) : Prop := 1 ≤ t.kind ∧ t.kind ≤ 5 ∧ deep ≤ 7 ∧ t.args.length = tMany t ∧ ¬ (t.kind = 5 ∧ p) ∧ (t.kind = 3 → LabsOk t.labels) ∧ (¬ t.kind = 3 → t.labels.length = 0)
theorem TFd_iff (t : Ty) (p : Prop) (deep : Int) : TFd t p deep ↔ TNd t p deep ∧ ∀ a ∈ t.args, TFd a (p ∨ t.kind = 3 ∨ t.kind = 4) (deep + 1) := by
  unfold TFd TNd tMany
  rw [TF_eta, tHas_eta, tdp_eta]
  have hdp : deep + ((1 + tdpL t.args : Nat) : Int) ≤ 8 ↔ deep ≤ 7 ∧ ∀ a ∈ t.args, deep + 1 + (tdp a : Int) ≤ 8 := by
    constructor
    · intro h
      exact ⟨by omega, fun a ha => by have := tdpL_le.1 (Nat.le_refl _) a ha; omega⟩
    · rintro ⟨h1, h2⟩
      have : tdpL t.args ≤ (7 - deep).toNat := tdpL_le.2 fun a ha => by have := h2 a ha; omega
      omega
  rw [hdp]
  unfold THd
  rw [tHas_eta]
  constructor
  · rintro ⟨⟨hh, hf⟩, hp, hd, hda⟩
    rcases hh with ⟨k, ha, hl, hn⟩ | ⟨k, ha, hl, hn⟩ | ⟨k, hl, ha⟩ | ⟨k, hl, ha⟩
    · have hn' : ¬ ∃ a ∈ t.args, tHas 5 a := fun h => hn (.inr h)
      exact ⟨⟨by omega, by omega, hd, by simp [k, ha], fun h => by omega, fun _ => hl, fun h => absurd k h⟩, fun a h => ⟨hf a h, fun _ h5 => hn' ⟨a, h, h5⟩, hda a h⟩⟩
    · exact ⟨⟨by omega, by omega, hd, by simp [k, ha], fun h => by omega, fun h => by omega, fun _ => hl⟩, fun a h => ⟨hf a h, fun _ h5 => hn ⟨a, h, h5⟩, hda a h⟩⟩
    · have hk : ¬ t.kind = 4 ∧ ¬ t.kind = 5 ∧ ¬ t.kind = 3 := by omega
      exact ⟨⟨by omega, by omega, hd, by simp [hk, ha], fun h => by omega, fun h => by omega, fun _ => hl⟩, fun a h => by rw [List.eq_nil_of_length_eq_zero ha] at h; cases h⟩
    · exact ⟨⟨by omega, by omega, hd, by simp [k, ha], fun h => hp h.2 (.inl k), fun h => by omega, fun _ => hl⟩, fun a h => ⟨hf a h, fun h' h5 => by rcases h' with h' | h' | h'; exact hp h' (.inr ⟨a, h, h5⟩); omega; omega, hda a h⟩⟩
  · rintro ⟨⟨h1, h2, hd, hm, h5, hl, hl0⟩, hall⟩
    have hno : (t.kind = 3 ∨ t.kind = 4) → ¬ ∃ a ∈ t.args, tHas 5 a := fun hk ⟨a, ha, h⟩ => (hall a ha).2.1 (.inr hk) h
    refine ⟨⟨?_, fun a ha => (hall a ha).1⟩, fun hp h => ?_, hd, fun a ha => (hall a ha).2.2⟩
    · by_cases k3 : t.kind = 3
      · exact .inl ⟨k3, by simpa [k3] using hm, hl k3, fun h => h.elim (fun h => by omega) (hno (.inl k3))⟩
      · by_cases k4 : t.kind = 4
        · exact .inr (.inl ⟨k4, by simpa [k4] using hm, hl0 k3, hno (.inr k4)⟩)
        · by_cases k5 : t.kind = 5
          · exact .inr (.inr (.inr ⟨k5, hl0 k3, by simpa [k5] using hm⟩))
          · exact .inr (.inr (.inl ⟨by omega, hl0 k3, by simpa [k3, k4, k5] using hm⟩))
    · rcases h with h | ⟨a, ha, h⟩
      · exact h5 ⟨h, hp⟩
      · exact (hall a ha).2.1 (.inl hp) h
theorem TFd_one (t : Ty) : TFd t False 1 ↔ TF t ∧ tdp t ≤ 7 := by unfold TFd; constructor <;> intro h <;> refine ⟨h.1, ?_⟩; have := h.2.2; omega; exact ⟨fun f => f.elim, by have := h.2; omega⟩
theorem TFd_data (t : Ty) : TFd t True 1 ↔ TF t ∧ ¬ tHas 5 t ∧ tdp t ≤ 7 := by unfold TFd; constructor <;> intro h <;> refine ⟨h.1, ?_⟩; exact ⟨h.2.1 trivial, by have := h.2.2; omega⟩; exact ⟨fun _ => h.2.1, by have := h.2.2; omega⟩
end Go.VC
namespace Go.VC
open Go
/-- Schemas that are right. -/
def SchOk (s : List Decl) : Prop := (∀ d ∈ s, NameOk d.name ∧ RowOk' d.row) ∧ AscS (s.map Decl.name) ∧ s.length ≤ 4
noncomputable instance (s : List Decl) : Decidable (SchOk s) := Classical.propDecidable _
/-- The sample's rows. -/
def smpC (k i j c : Nat) (a : Ty) : Val := if a.kind = 1 then .mk 1 (((3 * k + i + 2 * j + c) % 3 : Nat) : Int) [] [] else .mk 2 (((k + j + c) % 2 : Nat) : Int) [] []
def smpA (k i j : Nat) (l : List Ty) : List Val := l.zipIdx.map fun p => smpC k i j p.2 p.1
def smpR (k i j : Nat) (t : Ty) : Val := .mk 3 0 t.labels (smpA k i j t.args)
def smpT (k i : Nat) (d : Decl) : TData := ⟨d.name, (List.range ((k + i) % 3)).map fun j => smpR k i j d.row⟩
def smpL (k : Nat) (s : List Decl) : List TData := s.zipIdx.map fun p => smpT k p.2 p.1
noncomputable def smpD (s : List Decl) (k : Int) : List TData := if SchOk s ∧ 0 ≤ k ∧ k < 30 then smpL k.toNat s else []
end Go.VC
/- Reading types: the plain reader. -/
namespace Go.VC
open Go
def tZero : Ty := .mk 0 [] []
abbrev PR := Ty × Nat × Bool
/-- The fields of a record type: labels, types, the place, whether something was not there. -/
noncomputable def pFields (s : ByteArray) (rec : Nat → Bool → PR) : Nat → List ByteArray → List Ty → Nat → Bool → Bool → List ByteArray × List Ty × Nat × Bool
  | 0, L, A, p, b, _ => (L, A, p, b)
  | m + 1, L, A, p, b, more => if more = true ∧ b = false then
      let w := wordS s p b
      let p1 := wordP s p b
      let b1 := b || !decide (NameOk w)
      let p2 := takeP s p1 b1 ⟨#[58]⟩
      let b2 := !nextB s p1 b1 ⟨#[58]⟩
      let r := rec p2 b2
      pFields s rec m (L ++ [w]) (A ++ [r.1]) (takeP s r.2.1 r.2.2 ⟨#[44]⟩) r.2.2 (nextB s r.2.1 r.2.2 ⟨#[44]⟩)
    else (L, A, p, b)
noncomputable def pTy (s : ByteArray) : Nat → Nat → Bool → PR
  | 0, p, _ => (tZero, p, true)
  | n + 1, p, b =>
    if nextB s p b ⟨#[73]⟩ = true then (.mk 1 [] [], p + 1, b)
    else if nextB s p b ⟨#[66]⟩ = true then (.mk 2 [] [], p + 1, b)
    else if nextB s p b ⟨#[91]⟩ = true then
      let r := pTy s n (p + 1) b
      (.mk 4 [] [r.1], takeP s r.2.1 r.2.2 ⟨#[93]⟩, !nextB s r.2.1 r.2.2 ⟨#[93]⟩)
    else if nextB s p b ⟨#[40]⟩ = true then
      let r := pTy s n (p + 1) b
      let u := pTy s n (takeP s r.2.1 r.2.2 ⟨#[62]⟩) (!nextB s r.2.1 r.2.2 ⟨#[62]⟩)
      (.mk 5 [] [r.1, u.1], takeP s u.2.1 u.2.2 ⟨#[41]⟩, !nextB s u.2.1 u.2.2 ⟨#[41]⟩)
    else if nextB s p b ⟨#[123]⟩ = true then
      let f := pFields s (pTy s n) (s.size + 1) [] [] (p + 1) b true
      (.mk 3 f.1 f.2.1, takeP s f.2.2.1 f.2.2.2 ⟨#[125]⟩, !nextB s f.2.2.1 f.2.2.2 ⟨#[125]⟩)
    else (tZero, p, true)
theorem wordP_le {s : ByteArray} {p : Nat} {b : Bool} (h : p ≤ s.size) : wordP s p b ≤ s.size := by
  unfold wordP
  split
  · exact h
  · exact runP_le _ _ _ _ h
theorem wordP_ge {s : ByteArray} {p : Nat} {b : Bool} : p ≤ wordP s p b := by
  unfold wordP
  split
  · exact Nat.le_refl _
  · exact runP_ge _ _ _ _
theorem takeP_next {s t : ByteArray} {p : Nat} {b : Bool} (h : nextB s p b t = true) : takeP s p b t = p + t.size := if_pos h
theorem takeP_no {s t : ByteArray} {p : Nat} {b : Bool} (h : nextB s p b t = false) : takeP s p b t = p := if_neg (by rw [h]; simp)
theorem nextB_good {s t : ByteArray} {p : Nat} {b : Bool} (h : nextB s p b t = true) : b = false := by cases b with | true => rw [nextB_bad] at h; cases h | false => rfl
/-- The reader goes on, and not beyond the end. -/
def GoesOn (s : ByteArray) (rec : Nat → Bool → PR) : Prop := ∀ p b, p ≤ s.size → p ≤ (rec p b).2.1 ∧ (rec p b).2.1 ≤ s.size
theorem pFields_stop {s : ByteArray} {rec : Nat → Bool → PR} {m : Nat} {L : List ByteArray} {A : List Ty} {p : Nat} {b more : Bool} (h : ¬ (more = true ∧ b = false)) : pFields s rec m L A p b more = (L, A, p, b) := by
  cases m with
  | zero => rfl
  | succ m => rw [pFields, if_neg h]
theorem pFields_go {s : ByteArray} {rec : Nat → Bool → PR} (hr : GoesOn s rec) : ∀ (m : Nat) (L : List ByteArray) (A : List Ty) (p : Nat) (b more : Bool), p ≤ s.size → p ≤ (pFields s rec m L A p b more).2.2.1 ∧ (pFields s rec m L A p b more).2.2.1 ≤ s.size
  | 0, L, A, p, b, more, h => ⟨Nat.le_refl _, h⟩
  | m + 1, L, A, p, b, more, h => by
    rw [pFields]
    split
    · have h1 := wordP_le (b := b) h
      have h2 := wordP_ge (s := s) (p := p) (b := b)
      have h3 := takeP_le (t := ⟨#[58]⟩) (b := b || !decide (NameOk (wordS s p b))) h1
      have h4 := takeP_ge (s := s) (t := ⟨#[58]⟩) (p := wordP s p b) (b := b || !decide (NameOk (wordS s p b)))
      have h5 := hr _ (!nextB s (wordP s p b) (b || !decide (NameOk (wordS s p b))) ⟨#[58]⟩) h3
      have h6 := takeP_le (t := ⟨#[44]⟩) (b := (rec (takeP s (wordP s p b) (b || !decide (NameOk (wordS s p b))) ⟨#[58]⟩) (!nextB s (wordP s p b) (b || !decide (NameOk (wordS s p b))) ⟨#[58]⟩)).2.2) h5.2
      have h7 := takeP_ge (s := s) (t := ⟨#[44]⟩) (p := (rec (takeP s (wordP s p b) (b || !decide (NameOk (wordS s p b))) ⟨#[58]⟩) (!nextB s (wordP s p b) (b || !decide (NameOk (wordS s p b))) ⟨#[58]⟩)).2.1) (b := (rec (takeP s (wordP s p b) (b || !decide (NameOk (wordS s p b))) ⟨#[58]⟩) (!nextB s (wordP s p b) (b || !decide (NameOk (wordS s p b))) ⟨#[58]⟩)).2.2)
      have h8 := pFields_go hr m (L ++ [wordS s p b]) (A ++ [(rec (takeP s (wordP s p b) (b || !decide (NameOk (wordS s p b))) ⟨#[58]⟩) (!nextB s (wordP s p b) (b || !decide (NameOk (wordS s p b))) ⟨#[58]⟩)).1]) _ (rec (takeP s (wordP s p b) (b || !decide (NameOk (wordS s p b))) ⟨#[58]⟩) (!nextB s (wordP s p b) (b || !decide (NameOk (wordS s p b))) ⟨#[58]⟩)).2.2 (nextB s (rec (takeP s (wordP s p b) (b || !decide (NameOk (wordS s p b))) ⟨#[58]⟩) (!nextB s (wordP s p b) (b || !decide (NameOk (wordS s p b))) ⟨#[58]⟩)).2.1 (rec (takeP s (wordP s p b) (b || !decide (NameOk (wordS s p b))) ⟨#[58]⟩) (!nextB s (wordP s p b) (b || !decide (NameOk (wordS s p b))) ⟨#[58]⟩)).2.2 ⟨#[44]⟩) h6
      dsimp only
      exact ⟨by omega, h8.2⟩
    · exact ⟨Nat.le_refl _, h⟩
/-- The fields' fuel counts not, where there is enough. -/
theorem pFields_fuel {s : ByteArray} {rec : Nat → Bool → PR} (hr : GoesOn s rec) : ∀ (m k : Nat) (L : List ByteArray) (A : List Ty) (p : Nat) (b more : Bool), p ≤ s.size → s.size + 1 - p ≤ m → s.size + 1 - p ≤ k → pFields s rec m L A p b more = pFields s rec k L A p b more
  | 0, k, L, A, p, b, more, h, h1, h2 => by omega
  | m + 1, 0, L, A, p, b, more, h, h1, h2 => by omega
  | m + 1, k + 1, L, A, p, b, more, h, h1, h2 => by
    by_cases hc : more = true ∧ b = false
    · rw [pFields, if_pos hc, pFields, if_pos hc]
      dsimp only
      have g1 := wordP_le (b := b) h
      have g2 := wordP_ge (s := s) (p := p) (b := b)
      have g3 := takeP_le (t := ⟨#[58]⟩) (b := b || !decide (NameOk (wordS s p b))) g1
      have g4 := takeP_ge (s := s) (t := ⟨#[58]⟩) (p := wordP s p b) (b := b || !decide (NameOk (wordS s p b)))
      have g5 := hr _ (!nextB s (wordP s p b) (b || !decide (NameOk (wordS s p b))) ⟨#[58]⟩) g3
      generalize rec (takeP s (wordP s p b) (b || !decide (NameOk (wordS s p b))) ⟨#[58]⟩) (!nextB s (wordP s p b) (b || !decide (NameOk (wordS s p b))) ⟨#[58]⟩) = r at *
      cases hn : nextB s r.2.1 r.2.2 ⟨#[44]⟩ with
      | false => rw [pFields_stop (by simp), pFields_stop (by simp)]
      | true =>
        have hf := nextB_fits hn g5.2
        have hb : (ByteArray.mk #[44]).size = 1 := rfl
        rw [takeP_next hn]
        exact pFields_fuel hr m k _ _ _ _ _ (by omega) (by omega) (by omega)
    · rw [pFields_stop hc, pFields_stop hc]
theorem pFields_re {s : ByteArray} {rec : Nat → Bool → PR} (hr : GoesOn s rec) {L : List ByteArray} {A : List Ty} {p q : Nat} {b more : Bool} (hp : p ≤ s.size) (h : more = true → b = false → q + 1 ≤ p) : pFields s rec (s.size + 1 - p) L A p b more = pFields s rec (s.size - q) L A p b more := by
  by_cases hc : more = true ∧ b = false
  · have := h hc.1 hc.2
    exact pFields_fuel hr _ _ _ _ _ _ _ hp (by omega) (by omega)
  · rw [pFields_stop hc, pFields_stop hc]
theorem pTy_go (s : ByteArray) : ∀ n, GoesOn s (pTy s n)
  | 0 => fun p b h => ⟨Nat.le_refl _, h⟩
  | n + 1 => fun p b h => by
    have ih := pTy_go s n
    have z : ∀ c : UInt8, (ByteArray.mk #[c]).size = 1 := fun c => rfl
    rw [pTy]
    by_cases h1 : nextB s p b ⟨#[73]⟩ = true
    · rw [if_pos h1]; have := nextB_fits h1 h; have := z 73; exact ⟨by dsimp only; omega, by dsimp only; omega⟩
    rw [if_neg h1]
    by_cases h2 : nextB s p b ⟨#[66]⟩ = true
    · rw [if_pos h2]; have := nextB_fits h2 h; have := z 66; exact ⟨by dsimp only; omega, by dsimp only; omega⟩
    rw [if_neg h2]
    by_cases h3 : nextB s p b ⟨#[91]⟩ = true
    · rw [if_pos h3]; have := nextB_fits h3 h; have := z 91
      have g := ih (p + 1) b (by omega)
      exact ⟨Nat.le_trans (by omega) takeP_ge, takeP_le g.2⟩
    rw [if_neg h3]
    by_cases h4 : nextB s p b ⟨#[40]⟩ = true
    · rw [if_pos h4]; have := nextB_fits h4 h; have := z 40
      have g := ih (p + 1) b (by omega)
      have g2 := takeP_le (b := (pTy s n (p + 1) b).2.2) (t := ⟨#[62]⟩) g.2
      have g3 := takeP_ge (s := s) (p := (pTy s n (p + 1) b).2.1) (b := (pTy s n (p + 1) b).2.2) (t := ⟨#[62]⟩)
      have g4 := ih _ (!nextB s (pTy s n (p + 1) b).2.1 (pTy s n (p + 1) b).2.2 ⟨#[62]⟩) g2
      exact ⟨Nat.le_trans (by omega) takeP_ge, takeP_le g4.2⟩
    rw [if_neg h4]
    by_cases h5 : nextB s p b ⟨#[123]⟩ = true
    · rw [if_pos h5]; have := nextB_fits h5 h; have := z 123
      have g := pFields_go ih (s.size + 1) [] [] (p + 1) b true (by omega)
      exact ⟨Nat.le_trans (by omega) takeP_ge, takeP_le g.2⟩
    rw [if_neg h5]
    exact ⟨Nat.le_refl _, h⟩
end Go.VC
/- Reading types: the program. -/
namespace Go.VC
open Go
theorem consIV (a : IV) (l m : List IV) : (a :: l) ++ m = a :: (l ++ m) := rfl
theorem nilIV (m : List IV) : [] ++ m = m := rfl
theorem perm_key {κ : Nat → Value} {σ σ' : Sto} (hg : ∀ k, get σ' k = get σ k) (k : Nat) : KeyOk κ σ κ σ' k := ⟨fun _ => rfl, fun o' m' ho hm => ⟨o', m', by rw [← hg]; exact ho, hm, Nat.le_refl _, fun _ => rfl⟩⟩
theorem perm_over {w : World} {ω : Lab} {κ : Nat → Value} {σ σ' : Sto} (hg : ∀ k, get σ' k = get σ k) : Over w ω κ σ w ω κ σ' (fun _ => True) (fun _ => True) := ⟨fun b hb => ⟨hb, rfl⟩, fun k _ => perm_key hg k, fun k _ o' m' ho hm => ⟨⟨o', m', by rw [← hg]; exact ho, hm⟩, rfl, fun _ _ _ _ _ => rfl⟩⟩
/-- The objects' order counts not. -/
theorem FnS.perm {P : Program} {g : FuncId} {σ0 σ1 σ1' : Sto} {ys : List TV} {r : TV} (h : FnS P g σ0 ys σ1 r) (hg : ∀ k, get σ1' k = get σ1 k) : FnS P g σ0 ys σ1' r := by
  intro w ω κ vs hS hω hvs
  refine (h w ω κ vs hS hω hvs).mono fun e w' ⟨v, ω', κ', he, ht, hS', hr, hk⟩ => ⟨v, ω', κ', he, ht, ⟨fun k o ho => ?_, hS'.dom⟩, hr.step ((perm_over hg).sub (fun _ _ => trivial) fun _ _ => trivial), fun k hk' => (hk k hk').trans (perm_key hg k)⟩
  rw [hg] at ho
  exact (hS'.ob k o ho).step rfl (fun b hb => ⟨hb, rfl⟩) (fun b hb => ⟨hb, rfl⟩) fun _ _ _ i _ => perm_key hg i
/-- A type as a result of its own. -/
abbrev tyR (t : Ty) (q1 q2 : Nat) : TV := .ag [.im (.sc (.int .i64 t.kind)), .os q1 t.labels.length, .os q2 t.args.length]
abbrev tyS (t : Ty) (q1 q2 : Nat) : Sto := [(q1, .row t.labels.length (t.labels.flatMap eS)), (q2, .row t.args.length (t.args.flatMap eTy))]
section
variable {P : Program} {g : FuncId} {ys : List TV} {ty : TypeId} {o0 : List Cell} {s : ByteArray} {p : Nat} {b : Bool}
theorem nod3 {q1 q2 : Nat} (hq : [1, q1, q2].Nodup) : q1 ≠ 1 ∧ q2 ≠ 1 ∧ q1 ≠ q2 := by
  simp only [List.nodup_cons, List.mem_cons, List.not_mem_nil, or_false, not_or, not_false_eq_true, List.nodup_nil, and_true] at hq
  exact ⟨fun h => hq.1.1 h.symm, fun h => hq.1.2 h.symm, hq.2⟩
theorem typ_nil {k : Int} (h : FnS P g [(1, .box ty o0)] ys [(1, .box ty (rdO s p b))] (.ag [.im (.sc (.int .i64 k)), .nl, .nl])) (q1 q2 : Nat) (hq : [1, q1, q2].Nodup) : FnS P g [(1, .box ty o0)] ys ((1, .box ty (rdO s p b)) :: tyS (.mk k [] []) q1 q2) (tyR (.mk k [] []) q1 q2) := by
  obtain ⟨n1, n2, n3⟩ := nod3 hq
  have h1 := h.nl 1 q1 rfl (by simp [get_cons, get_nil, n1]) (by simp [get_cons, get_nil, n1]) (by simp [hasL, Cell.has]) (by simp [noS, hasL, Cell.has])
  have h2 := h1.nl 2 q2 rfl (by simp [get_cons, get_nil, n2, Ne.symm n3]) (by simp [get_cons, get_nil, n2]) (by simp [hasL, Cell.has, n3]) (by simp [noS, hasL, Cell.has])
  refine h2.perm fun i => ?_
  simp only [get_cons, get_nil, Ty.labels, Ty.args, List.length_nil, List.flatMap_nil]
  by_cases e1 : i = 1
  · subst e1; simp [Ne.symm n1, Ne.symm n2]
  · by_cases e2 : i = q1
    · subst e2; simp [n1, n3]
    · simp [e1, e2]
theorem typ_nl1 {k d : Int} {a : List Ty} {p0 kk ta : Nat} {b0 : Bool} (h : FnS P g [(1, .box ty (rdO s p0 b0))] [.c (.rf 1 0), iT d] [(1, .box ty (rdO s p b)), (kk, .vec ta 3 a.length (a.flatMap eTy) true)] (.ag [.im (.sc (.int .i64 k)), .nl, .os kk a.length])) (hk : [1, kk].Nodup) (q1 q2 : Nat) (hq : [1, q1, q2].Nodup) : FnS P g [(1, .box ty (rdO s p0 b0))] [.c (.rf 1 0), iT d] ((1, .box ty (rdO s p b)) :: tyS (.mk k [] a) q1 q2) (tyR (.mk k [] a) q1 q2) := by
  obtain ⟨n1, n2, n3⟩ := nod3 hq
  obtain ⟨f, hf⟩ := pml [1, kk] [1, q2] hk (by simp [Ne.symm n2]) rfl
  simp only [List.map_cons, List.map_nil, List.cons.injEq, and_true] at hf
  have h0 : FnS P g [(1, .box ty (rdO s p0 b0))] [.c (.rf 1 0), iT d] [(1, .box ty (rdO s p b)), (q2, .row a.length (a.flatMap eTy))] (.ag [.im (.sc (.int .i64 k)), .nl, .os q2 a.length]) := by
    refine (h.rows.renA f).asA ?_ ?_ ?_ ?_ <;> simp [rowS, rowO, renS, Ob.ren, TV.ren, renL, Cell.ren, hf, rdO]
  have h1 := h0.nl 1 q1 rfl (by simp [get_cons, get_nil, n1, n3]) (by simp [get_cons, get_nil, n1]) (by simp [hasL, Cell.has, Ne.symm n3]) (by simp [noS, hasL, Cell.has])
  refine h1.perm fun i => ?_
  simp only [get_cons, get_nil, Ty.labels, Ty.args, List.length_nil, List.flatMap_nil]
  by_cases e1 : i = 1
  · subst e1; simp [Ne.symm n1, Ne.symm n2]
  · by_cases e2 : i = q1
    · subst e2; simp [n1, n3]
    · simp [e1, e2]
theorem typ_os {k d : Int} {l : List ByteArray} {a : List Ty} {p0 ta tb : Nat} {b0 : Bool} (h : FnS P g [(1, .box ty (rdO s p0 b0))] [.c (.rf 1 0), iT d] [(1, .box ty (rdO s p b)), (1000, .vec ta 1 l.length (l.flatMap eS) true), (1002, .vec tb 3 a.length (a.flatMap eTy) true)] (.ag [.im (.sc (.int .i64 k)), .os 1000 l.length, .os 1002 a.length])) (q1 q2 : Nat) (hq : [1, q1, q2].Nodup) : FnS P g [(1, .box ty (rdO s p0 b0))] [.c (.rf 1 0), iT d] ((1, .box ty (rdO s p b)) :: tyS (.mk k l a) q1 q2) (tyR (.mk k l a) q1 q2) := by
  obtain ⟨f, hf⟩ := pml [1, 1000, 1002] [1, q1, q2] (by decide) hq rfl
  simp only [List.map_cons, List.map_nil, List.cons.injEq, and_true] at hf
  refine (h.rows.renA f).asA ?_ ?_ ?_ ?_ <;> simp [rowS, rowO, renS, Ob.ren, TV.ren, renL, Cell.ren, hf, rdO, Ty.labels, Ty.args, Ty.kind]
end
/-- What reading a type does. -/
def TypC (P : Program) (g : FuncId) (ty : TypeId) (s : ByteArray) (n : Nat) : Prop := ∀ (d : Int) (p : Nat) (b : Bool), d + n = 8 → 0 ≤ d → p ≤ s.size → ∀ (q1 q2 : Nat), [1, q1, q2].Nodup →
  FnS P g [(1, .box ty (rdO s p b))] [.c (.rf 1 0), iT d] ((1, .box ty (rdO s (pTy s n p b).2.1 (pTy s n p b).2.2)) :: tyS (pTy s n p b).1 q1 q2) (tyR (pTy s n p b).1 q1 q2)
end Go.VC
namespace Go.VC.T
open Go Go.VC Go.Proofs Go.VC.F
set_option linter.unusedSimpArgs false
set_option linter.unusedVariables false
set_option linter.defProp false
set_option maxRecDepth 100000
set_option maxHeartbeats 2000000
def fc205A72 := (And.intro (And.intro (And.intro sz77 ag77) (And.intro zv77 (And.intro fl77_0 fl77_1))) (And.intro (And.intro fl77_2 pl77) (And.intro sz3 (And.intro sz63 sz75))))
theorem intType_ok (u : Unit) : FnS Try.prog 205 [] [] [] (.ag [.im (.sc (.int .i64 1)), .nl, .nl]) := by
  refine FnS.go [0] [] Try.func205 rfl (fun kt kz => ?_)
  have fcx := fc205A72
  simp only [Try.f205]
  refine Run (cast_succ) ?_; repeat' (first | (with_reducible exact True.intro) | (with_reducible refine Lf.mk ?_ ?_) | (with_reducible intro hb))
def fc206A72 := (And.intro (And.intro (And.intro sz77 ag77) (And.intro zv77 (And.intro fl77_0 fl77_1))) (And.intro (And.intro fl77_2 pl77) (And.intro sz3 (And.intro sz63 sz75))))
theorem boolType_ok (u : Unit) : FnS Try.prog 206 [] [] [] (.ag [.im (.sc (.int .i64 2)), .nl, .nl]) := by
  refine FnS.go [0] [] Try.func206 rfl (fun kt kz => ?_)
  have fcx := fc206A72
  simp only [Try.f206]
  refine Run (cast_succ) ?_; repeat' (first | (with_reducible exact True.intro) | (with_reducible refine Lf.mk ?_ ?_) | (with_reducible intro hb))
def fc208A72 := (And.intro (And.intro (And.intro (And.intro sz75 ag75) (And.intro zv75 sb75)) (And.intro (And.intro un75 el75) (And.intro ap75 sz77))) (And.intro (And.intro (And.intro ag77 zv77) (And.intro fl77_0 fl77_1)) (And.intro (And.intro fl77_2 pl77) (And.intro sz3 sz63))))
theorem bagType_of (t : Ty) : FnS Try.prog 208 (tyS t 1 3) [tyR t 1 3] [(8, .vec 77 3 1 (eTy t) true)] (.ag [.im (.sc (.int .i64 4)), .nl, .os 8 1]) := by
  refine FnS.go [0, 1, 2] [] Try.func208 rfl (fun kt kz => ?_) (hodd := by refine oddS _ ?_; simp)
  have fcx := fc208A72
  simp only [Try.f208]
  refine Run ((eTy_eta t)) ?_; repeat' (first | (with_reducible exact True.intro) | (with_reducible refine Lf.mk ?_ ?_) | (with_reducible intro hb))

theorem bagType_q (t : Ty) : FnS Try.prog 208 (tyS t 2000 2002) [tyR t 2000 2002] [(2004, .vec 77 3 1 (eTy t) true)] (.ag [.im (.sc (.int .i64 4)), .nl, .os 2004 1]) := by
  obtain ⟨p, hp⟩ := pml [1, 3, 8] [2000, 2002, 2004] (by decide) (by decide) rfl
  simp only [List.map_cons, List.map_nil, List.cons.injEq, and_true] at hp
  refine ((bagType_of t).renA p).asA ?_ ?_ ?_ ?_ <;> simp [renS, Ob.ren, TV.ren, renL, Cell.ren, hp]
def fc167A72 := (And.intro (And.intro (And.intro (And.intro (And.intro sz3 (And.intro ag3 zv3)) (And.intro un3 (And.intro sz4 ag4))) (And.intro (And.intro zv4 (And.intro un4 sz9)) (And.intro ag9 (And.intro zv9 un9)))) (And.intro (And.intro (And.intro sz63 (And.intro ag63 zv63)) (And.intro sb63 (And.intro un63 el63))) (And.intro (And.intro ap63 (And.intro sz75 ag75)) (And.intro (And.intro zv75 sb75) (And.intro un75 el75))))) (And.intro (And.intro (And.intro (And.intro ap75 (And.intro sz77 ag77)) (And.intro zv77 (And.intro fl77_0 fl77_1))) (And.intro (And.intro fl77_2 (And.intro pl77 sz216)) (And.intro (And.intro ag216 zv216) (And.intro fl216_0 fl216_1)))) (And.intro (And.intro (And.intro fl216_2 (And.intro pl216 sz248)) (And.intro ag248 (And.intro zv248 un248))) (And.intro (And.intro okf167 (And.intro okf204 okf205)) (And.intro (And.intro okf206 okf207) (And.intro okf208 okf209))))))
theorem typ_deep (s : ByteArray) (p : Nat) (b : Bool) : FnS Try.prog 167 [(1, .box 216 (rdO s p b))] [.c (.rf 1 0), iT 8] [(1, .box 216 (rdO s p true))] (.ag [.im (.sc (.int .i64 0)), .nl, .nl]) := by
  refine FnS.go [0, 1, 4, 5, 6, 7, 8, 9, 13, 19, 23, 27, 38, 57, 68] [] Try.func167 rfl (fun kt kz => ?_)
  have fcx := fc167A72
  simp only [Try.f167]
  refine Run (cast_succ) ?_; repeat' (first | (with_reducible exact True.intro) | (with_reducible refine Lf.mk ?_ ?_) | (with_reducible intro hb))
theorem typ_int (s : ByteArray) (hs : s.size ≤ 2^20) (p : Nat) (hp : p ≤ s.size) (b : Bool) (d : Int) (hd0 : 0 ≤ d) (hd : d ≤ 7) (h : nextB s p b ⟨#[73]⟩ = true) : FnS Try.prog 167 [(1, .box 216 (rdO s p b))] [.c (.rf 1 0), iT d] [(1, .box 216 (rdO s (p + 1) b))] (.ag [.im (.sc (.int .i64 1)), .nl, .nl]) := by
  refine FnS.go [0, 1, 4, 5, 6, 7, 8, 9, 13, 19, 23, 27, 38, 57, 68] [] Try.func167 rfl (fun kt kz => ?_)
  have fcx := fc167A72
  simp only [Try.f167]
  have gd : (7 < d) = False := eq_false (by omega)
  have z : (ByteArray.mk #[73]).size = 1 := rfl
  have e : takeP s p b ⟨#[73]⟩ = p + 1 := takeP_next h
  refine Run (@gd) ?_; repeat' (first | (with_reducible exact True.intro) | (with_reducible refine Lf.mk ?_ ?_) | (with_reducible intro hb))
  refine CalO (cast_succ) (rdTake_ok s ⟨#[73]⟩ (by omega) (by omega) p hp b) ?_
  refine Run ((And.intro @h @e)) ?_; repeat' (first | (with_reducible exact True.intro) | (with_reducible refine Lf.mk ?_ ?_) | (with_reducible intro hb))
  refine Cal (cast_succ) (intType_ok ()) ?_
  refine Run (cast_succ) ?_; repeat' (first | (with_reducible exact True.intro) | (with_reducible refine Lf.mk ?_ ?_) | (with_reducible intro hb))
theorem typ_bool (s : ByteArray) (hs : s.size ≤ 2^20) (p : Nat) (hp : p ≤ s.size) (b : Bool) (d : Int) (hd0 : 0 ≤ d) (hd : d ≤ 7) (h1 : nextB s p b ⟨#[73]⟩ = false) (h : nextB s p b ⟨#[66]⟩ = true) : FnS Try.prog 167 [(1, .box 216 (rdO s p b))] [.c (.rf 1 0), iT d] [(1, .box 216 (rdO s (p + 1) b))] (.ag [.im (.sc (.int .i64 2)), .nl, .nl]) := by
  refine FnS.go [0, 1, 4, 5, 6, 7, 8, 9, 13, 19, 23, 27, 38, 57, 68] [] Try.func167 rfl (fun kt kz => ?_)
  have fcx := fc167A72
  simp only [Try.f167]
  have gd : (7 < d) = False := eq_false (by omega)
  have e1 := takeP_no h1
  have e : takeP s p b ⟨#[66]⟩ = p + 1 := takeP_next h
  refine Run (@gd) ?_; repeat' (first | (with_reducible exact True.intro) | (with_reducible refine Lf.mk ?_ ?_) | (with_reducible intro hb))
  refine CalO (cast_succ) (rdTake_ok s ⟨#[73]⟩ (by omega) (show 1 ≤ 2^48 by omega) p hp b) ?_
  refine Run ((And.intro @h1 @e1)) ?_; repeat' (first | (with_reducible exact True.intro) | (with_reducible refine Lf.mk ?_ ?_) | (with_reducible intro hb))
  refine CalO (cast_succ) (rdTake_ok s ⟨#[66]⟩ (by omega) (show 1 ≤ 2^48 by omega) p hp b) ?_
  refine Run ((And.intro @h @e)) ?_; repeat' (first | (with_reducible exact True.intro) | (with_reducible refine Lf.mk ?_ ?_) | (with_reducible intro hb))
  refine Cal (cast_succ) (boolType_ok ()) ?_
  refine Run (cast_succ) ?_; repeat' (first | (with_reducible exact True.intro) | (with_reducible refine Lf.mk ?_ ?_) | (with_reducible intro hb))
theorem typ_none (s : ByteArray) (hs : s.size ≤ 2^20) (p : Nat) (hp : p ≤ s.size) (b : Bool) (d : Int) (hd0 : 0 ≤ d) (hd : d ≤ 7) (h1 : nextB s p b ⟨#[73]⟩ = false) (h2 : nextB s p b ⟨#[66]⟩ = false) (h3 : nextB s p b ⟨#[91]⟩ = false) (h4 : nextB s p b ⟨#[40]⟩ = false) (h5 : nextB s p b ⟨#[123]⟩ = false) : FnS Try.prog 167 [(1, .box 216 (rdO s p b))] [.c (.rf 1 0), iT d] [(1, .box 216 (rdO s p true))] (.ag [.im (.sc (.int .i64 0)), .nl, .nl]) := by
  refine FnS.go [0, 1, 4, 5, 6, 7, 8, 9, 13, 19, 23, 27, 38, 57, 68] [] Try.func167 rfl (fun kt kz => ?_)
  have fcx := fc167A72
  simp only [Try.f167]
  have gd : (7 < d) = False := eq_false (by omega)
  have e1 := takeP_no h1
  have e2 := takeP_no h2
  have e3 := takeP_no h3
  have e4 := takeP_no h4
  have e5 := takeP_no h5
  refine Run (@gd) ?_; repeat' (first | (with_reducible exact True.intro) | (with_reducible refine Lf.mk ?_ ?_) | (with_reducible intro hb))
  refine CalO (cast_succ) (rdTake_ok s ⟨#[73]⟩ (by omega) (show 1 ≤ 2^48 by omega) p hp b) ?_
  refine Run ((And.intro @h1 @e1)) ?_; repeat' (first | (with_reducible exact True.intro) | (with_reducible refine Lf.mk ?_ ?_) | (with_reducible intro hb))
  refine CalO (cast_succ) (rdTake_ok s ⟨#[66]⟩ (by omega) (show 1 ≤ 2^48 by omega) p hp b) ?_
  refine Run ((And.intro @h2 @e2)) ?_; repeat' (first | (with_reducible exact True.intro) | (with_reducible refine Lf.mk ?_ ?_) | (with_reducible intro hb))
  refine CalO (cast_succ) (rdTake_ok s ⟨#[91]⟩ (by omega) (show 1 ≤ 2^48 by omega) p hp b) ?_
  refine Run ((And.intro @h3 @e3)) ?_; repeat' (first | (with_reducible exact True.intro) | (with_reducible refine Lf.mk ?_ ?_) | (with_reducible intro hb))
  refine CalO (cast_succ) (rdTake_ok s ⟨#[40]⟩ (by omega) (show 1 ≤ 2^48 by omega) p hp b) ?_
  refine Run ((And.intro @h4 @e4)) ?_; repeat' (first | (with_reducible exact True.intro) | (with_reducible refine Lf.mk ?_ ?_) | (with_reducible intro hb))
  refine CalO (cast_succ) (rdTake_ok s ⟨#[123]⟩ (by omega) (show 1 ≤ 2^48 by omega) p hp b) ?_
  refine Run ((And.intro @h5 @e5)) ?_; repeat' (first | (with_reducible exact True.intro) | (with_reducible refine Lf.mk ?_ ?_) | (with_reducible intro hb))
theorem typ_bag (s : ByteArray) (hs : s.size ≤ 2^20) (n : Nat) (H : TypC Try.prog 167 216 s n) (p : Nat) (hp : p ≤ s.size) (b : Bool) (d : Int) (hd0 : 0 ≤ d) (hd : d + (n + 1) = 8) (h1 : nextB s p b ⟨#[73]⟩ = false) (h2 : nextB s p b ⟨#[66]⟩ = false) (h : nextB s p b ⟨#[91]⟩ = true) (R : PR) (hR : pTy s n (p + 1) b = R) : FnS Try.prog 167 [(1, .box 216 (rdO s p b))] [.c (.rf 1 0), iT d] [(1, .box 216 (rdO s (takeP s R.2.1 R.2.2 ⟨#[93]⟩) (!nextB s R.2.1 R.2.2 ⟨#[93]⟩))), (2004, .vec 77 3 1 (eTy R.1) true)] (.ag [.im (.sc (.int .i64 4)), .nl, .os 2004 1]) := by
  refine FnS.go [0, 1, 4, 5, 6, 7, 8, 9, 13, 19, 23, 27, 38, 57, 68] [] Try.func167 rfl (fun kt kz => ?_)
  have fcx := fc167A72
  simp only [Try.f167]
  have gd : (7 < d) = False := eq_false (by omega)
  have e1 := takeP_no h1
  have e2 := takeP_no h2
  have e : takeP s p b ⟨#[91]⟩ = p + 1 := takeP_next h
  have z : (ByteArray.mk #[91]).size = 1 := rfl
  have hf := nextB_fits h hp
  have hT := H (d + 1) (p + 1) b (by omega) (by omega) (by omega) 2000 2002 (by decide)
  rw [hR] at hT
  have hg := (pTy_go s n (p + 1) b (by omega)).2
  rw [hR] at hg
  refine Run (@gd) ?_; repeat' (first | (with_reducible exact True.intro) | (with_reducible refine Lf.mk ?_ ?_) | (with_reducible intro hb))
  refine CalO (cast_succ) (rdTake_ok s ⟨#[73]⟩ (by omega) (show 1 ≤ 2^48 by omega) p hp b) ?_
  refine Run ((And.intro @h1 @e1)) ?_; repeat' (first | (with_reducible exact True.intro) | (with_reducible refine Lf.mk ?_ ?_) | (with_reducible intro hb))
  refine CalO (cast_succ) (rdTake_ok s ⟨#[66]⟩ (by omega) (show 1 ≤ 2^48 by omega) p hp b) ?_
  refine Run ((And.intro @h2 @e2)) ?_; repeat' (first | (with_reducible exact True.intro) | (with_reducible refine Lf.mk ?_ ?_) | (with_reducible intro hb))
  refine CalO (cast_succ) (rdTake_ok s ⟨#[91]⟩ (by omega) (show 1 ≤ 2^48 by omega) p hp b) ?_
  refine Run ((And.intro @h @e)) ?_; repeat' (first | (with_reducible exact True.intro) | (with_reducible refine Lf.mk ?_ ?_) | (with_reducible intro hb))
  refine CalO (cast_succ) (hT) ?_
  refine Run (cast_succ) ?_; repeat' (first | (with_reducible exact True.intro) | (with_reducible refine Lf.mk ?_ ?_) | (with_reducible intro hb))
  refine CalO (cast_succ) (rdNeed_ok s ⟨#[93]⟩ (by omega) (show 1 ≤ 2^48 by omega) R.2.1 hg R.2.2) ?_
  refine Run (cast_succ) ?_; repeat' (first | (with_reducible exact True.intro) | (with_reducible refine Lf.mk ?_ ?_) | (with_reducible intro hb))
  refine CalO (cast_succ) (bagType_q R.1) ?_
  refine Run (cast_succ) ?_; repeat' (first | (with_reducible exact True.intro) | (with_reducible refine Lf.mk ?_ ?_) | (with_reducible intro hb))
theorem typ_fun (s : ByteArray) (hs : s.size ≤ 2^20) (n : Nat) (H : TypC Try.prog 167 216 s n) (p : Nat) (hp : p ≤ s.size) (b : Bool) (d : Int) (hd0 : 0 ≤ d) (hd : d + (n + 1) = 8) (h1 : nextB s p b ⟨#[73]⟩ = false) (h2 : nextB s p b ⟨#[66]⟩ = false) (h3 : nextB s p b ⟨#[91]⟩ = false) (h : nextB s p b ⟨#[40]⟩ = true) (R : PR) (hR : pTy s n (p + 1) b = R) (U : PR) (hU : pTy s n (takeP s R.2.1 R.2.2 ⟨#[62]⟩) (!nextB s R.2.1 R.2.2 ⟨#[62]⟩) = U) : FnS Try.prog 167 [(1, .box 216 (rdO s p b))] [.c (.rf 1 0), iT d] [(1, .box 216 (rdO s (takeP s U.2.1 U.2.2 ⟨#[41]⟩) (!nextB s U.2.1 U.2.2 ⟨#[41]⟩))), (110, .vec 77 3 2 (eTy R.1 ++ eTy U.1) true)] (.ag [.im (.sc (.int .i64 5)), .nl, .os 110 2]) := by
  refine FnS.go [0, 1, 4, 5, 6, 7, 8, 9, 13, 19, 23, 27, 38, 57, 68] [] Try.func167 rfl (fun kt kz => ?_)
  have fcx := fc167A72
  simp only [Try.f167]
  have gd : (7 < d) = False := eq_false (by omega)
  have e1 := takeP_no h1
  have e2 := takeP_no h2
  have e3 := takeP_no h3
  have e : takeP s p b ⟨#[40]⟩ = p + 1 := takeP_next h
  have z : (ByteArray.mk #[40]).size = 1 := rfl
  have hf := nextB_fits h hp
  have hT := H (d + 1) (p + 1) b (by omega) (by omega) (by omega) 2000 2002 (by decide)
  rw [hR] at hT
  have hg := (pTy_go s n (p + 1) b (by omega)).2
  rw [hR] at hg
  have hg2 := takeP_le (b := R.2.2) (t := ⟨#[62]⟩) hg
  have hT2 := H (d + 1) (takeP s R.2.1 R.2.2 ⟨#[62]⟩) (!nextB s R.2.1 R.2.2 ⟨#[62]⟩) (by omega) (by omega) hg2 2004 2006 (by decide)
  rw [hU] at hT2
  have hg3 := (pTy_go s n _ (!nextB s R.2.1 R.2.2 ⟨#[62]⟩) hg2).2
  rw [hU] at hg3
  refine Run (@gd) ?_; repeat' (first | (with_reducible exact True.intro) | (with_reducible refine Lf.mk ?_ ?_) | (with_reducible intro hb))
  refine CalO (cast_succ) (rdTake_ok s ⟨#[73]⟩ (by omega) (show 1 ≤ 2^48 by omega) p hp b) ?_
  refine Run ((And.intro @h1 @e1)) ?_; repeat' (first | (with_reducible exact True.intro) | (with_reducible refine Lf.mk ?_ ?_) | (with_reducible intro hb))
  refine CalO (cast_succ) (rdTake_ok s ⟨#[66]⟩ (by omega) (show 1 ≤ 2^48 by omega) p hp b) ?_
  refine Run ((And.intro @h2 @e2)) ?_; repeat' (first | (with_reducible exact True.intro) | (with_reducible refine Lf.mk ?_ ?_) | (with_reducible intro hb))
  refine CalO (cast_succ) (rdTake_ok s ⟨#[91]⟩ (by omega) (show 1 ≤ 2^48 by omega) p hp b) ?_
  refine Run ((And.intro @h3 @e3)) ?_; repeat' (first | (with_reducible exact True.intro) | (with_reducible refine Lf.mk ?_ ?_) | (with_reducible intro hb))
  refine CalO (cast_succ) (rdTake_ok s ⟨#[40]⟩ (by omega) (show 1 ≤ 2^48 by omega) p hp b) ?_
  refine Run ((And.intro @h @e)) ?_; repeat' (first | (with_reducible exact True.intro) | (with_reducible refine Lf.mk ?_ ?_) | (with_reducible intro hb))
  refine CalO (cast_succ) (hT) ?_
  refine Run (cast_succ) ?_; repeat' (first | (with_reducible exact True.intro) | (with_reducible refine Lf.mk ?_ ?_) | (with_reducible intro hb))
  refine CalO (cast_succ) (rdNeed_ok s ⟨#[62]⟩ (by omega) (show 1 ≤ 2^48 by omega) R.2.1 hg R.2.2) ?_
  refine Run (cast_succ) ?_; repeat' (first | (with_reducible exact True.intro) | (with_reducible refine Lf.mk ?_ ?_) | (with_reducible intro hb))
  refine CalO (cast_succ) (hT2) ?_
  refine Run (cast_succ) ?_; repeat' (first | (with_reducible exact True.intro) | (with_reducible refine Lf.mk ?_ ?_) | (with_reducible intro hb))
  refine CalO (cast_succ) (rdNeed_ok s ⟨#[41]⟩ (by omega) (show 1 ≤ 2^48 by omega) U.2.1 hg3 U.2.2) ?_
  refine Run ((And.intro (And.intro (eTy_eta R.1) (eTy_eta U.1)) (And.intro @consIV @nilIV))) ?_; repeat' (first | (with_reducible exact True.intro) | (with_reducible refine Lf.mk ?_ ?_) | (with_reducible intro hb))
theorem typ_rec (s : ByteArray) (hs : s.size ≤ 2^20) (n : Nat) (H : TypC Try.prog 167 216 s n) (p : Nat) (hp : p ≤ s.size) (b : Bool) (d : Int) (hd0 : 0 ≤ d) (hd : d + (n + 1) = 8) (h1 : nextB s p b ⟨#[73]⟩ = false) (h2 : nextB s p b ⟨#[66]⟩ = false) (h3 : nextB s p b ⟨#[91]⟩ = false) (h4 : nextB s p b ⟨#[40]⟩ = false) (h : nextB s p b ⟨#[123]⟩ = true) (L : List ByteArray) (A : List Ty) (p' : Nat) (b' : Bool) (hF : pFields s (pTy s n) (s.size + 1) [] [] (p + 1) b true = (L, A, p', b')) : FnS Try.prog 167 [(1, .box 216 (rdO s p b))] [.c (.rf 1 0), iT d] [(1, .box 216 (rdO s (takeP s p' b' ⟨#[125]⟩) (!nextB s p' b' ⟨#[125]⟩))), (1000, .vec 9 1 L.length (L.flatMap eS) true), (1002, .vec 77 3 A.length (A.flatMap eTy) true)] (.ag [.im (.sc (.int .i64 3)), .os 1000 L.length, .os 1002 A.length]) := by
  refine FnS.go [0, 1, 4, 5, 6, 7, 8, 9, 13, 19, 23, 27, 38, 57, 68] [] Try.func167 rfl (fun kt kz => ?_)
  have fcx := fc167A72
  simp only [Try.f167]
  have gd : (7 < d) = False := eq_false (by omega)
  have e1 := takeP_no h1
  have e2 := takeP_no h2
  have e3 := takeP_no h3
  have e4 := takeP_no h4
  have e : takeP s p b ⟨#[123]⟩ = p + 1 := takeP_next h
  have z : (ByteArray.mk #[123]).size = 1 := rfl
  have z2 : (ByteArray.mk #[44]).size = 1 := rfl
  have hf := nextB_fits h hp
  have hb := nextB_good h
  have hgo := pTy_go s n
  refine Run (@gd) ?_; repeat' (first | (with_reducible exact True.intro) | (with_reducible refine Lf.mk ?_ ?_) | (with_reducible intro hb))
  refine CalO (cast_succ) (rdTake_ok s ⟨#[73]⟩ (by omega) (show 1 ≤ 2^48 by omega) p hp b) ?_
  refine Run ((And.intro @h1 @e1)) ?_; repeat' (first | (with_reducible exact True.intro) | (with_reducible refine Lf.mk ?_ ?_) | (with_reducible intro hb))
  refine CalO (cast_succ) (rdTake_ok s ⟨#[66]⟩ (by omega) (show 1 ≤ 2^48 by omega) p hp b) ?_
  refine Run ((And.intro @h2 @e2)) ?_; repeat' (first | (with_reducible exact True.intro) | (with_reducible refine Lf.mk ?_ ?_) | (with_reducible intro hb))
  refine CalO (cast_succ) (rdTake_ok s ⟨#[91]⟩ (by omega) (show 1 ≤ 2^48 by omega) p hp b) ?_
  refine Run ((And.intro @h3 @e3)) ?_; repeat' (first | (with_reducible exact True.intro) | (with_reducible refine Lf.mk ?_ ?_) | (with_reducible intro hb))
  refine CalO (cast_succ) (rdTake_ok s ⟨#[40]⟩ (by omega) (show 1 ≤ 2^48 by omega) p hp b) ?_
  refine Run ((And.intro @h4 @e4)) ?_; repeat' (first | (with_reducible exact True.intro) | (with_reducible refine Lf.mk ?_ ?_) | (with_reducible intro hb))
  refine CalO (cast_succ) (rdTake_ok s ⟨#[123]⟩ (by omega) (show 1 ≤ 2^48 by omega) p hp b) ?_
  refine Run ((And.intro @h @e)) ?_; repeat' (first | (with_reducible exact True.intro) | (with_reducible refine Lf.mk ?_ ?_) | (with_reducible intro hb))
  refine Sm.nlB (16) 1 (1000) (9) 1 true (by rfl) (by rfl) (by rfl) (by decide) (by rfl) (by rfl) (by decide) (by rfl) ?_; simp only [upd, List.set_cons_zero, List.set_cons_succ, ↓reduceIte, Nat.reduceEqDiff]
  refine Sm.nlB (16) 2 (1002) (77) 3 true (by rfl) (by rfl) (by rfl) (by decide) (by rfl) (by rfl) (by decide) (by rfl) ?_; simp only [upd, List.set_cons_zero, List.set_cons_succ, ↓reduceIte, Nat.reduceEqDiff]
  refine Trn (α := List ByteArray × List Ty × Nat × Bool × Bool) [9, 61, 62, 63, 64, 65, 66, 67, 68, 69, 70, 71, 72, 73, 74, 75, 76, 77, 78, 79, 80, 81, 82, 83, 84, 85, 86, 87, 88] (fun ⟨M, B, q, c, more⟩ => [(9, bT more)]) (fun ⟨M, B, q, c, more⟩ => [(1, .box 216 (rdO s q c)), (8, .box 77 [.im (.sc (.int .i64 0)), .nl, .nl]), (16, .box 77 [.im (.sc (.int .i64 3)), .os 1000 M.length, .os 1002 B.length]), (1000, .vec 9 1 M.length (M.flatMap eS) true), (1002, .vec 77 3 B.length (B.flatMap eTy) true)]) (fun ⟨M, B, q, c, more⟩ => q ≤ s.size ∧ M.length = B.length ∧ (more = true → c = false → M.length + 1 ≤ q) ∧ M.length ≤ s.size ∧ pFields s (pTy s n) (s.size + 1 - q) M B q c more = (L, A, p', b')) (fun ⟨M, B, q, c, more⟩ => if more = true ∧ c = false then s.size + 1 - q else 0) (([], [], p + 1, b, true)) (⟨by omega, rfl, fun _ _ => by simp, by simp, by rw [← hF]; exact pFields_fuel hgo _ _ _ _ _ _ _ (by omega) (by omega) (by omega)⟩) (cast_succ) ?_; intro lx hI; obtain ⟨M, B, q, c, more⟩ := lx; (try simp only [List.nil_append, List.cons_append] at hI ⊢)
  obtain ⟨hqz, hML, hMq, hMs, hP⟩ := hI
  by_cases hc : more = true ∧ c = false
  · obtain ⟨rfl, rfl⟩ := hc
    have hMq := hMq rfl rfl
    have g1 := wordP_le (b := false) hqz
    have g2 := wordP_ge (s := s) (p := q) (b := false)
    have hP' := hP
    rw [show s.size + 1 - q = (s.size - q) + 1 by omega, pFields, if_pos ⟨rfl, rfl⟩] at hP'
    dsimp only at hP'
    have hN := rdName_ok s (by omega) q hqz false
    simp only [Bool.false_or] at hN hP'
    generalize hw : wordS s q false = w at *
    generalize hp1 : wordP s q false = p1 at *
    generalize hb1 : (!decide (NameOk w)) = b1 at *
    have g3 := takeP_le (t := ⟨#[58]⟩) (b := b1) g1
    have g4 := takeP_ge (s := s) (t := ⟨#[58]⟩) (p := p1) (b := b1)
    have hT := H (d + 1) (takeP s p1 b1 ⟨#[58]⟩) (!nextB s p1 b1 ⟨#[58]⟩) (by omega) (by omega) g3 2000 2002 (by decide)
    have g5 := hgo (takeP s p1 b1 ⟨#[58]⟩) (!nextB s p1 b1 ⟨#[58]⟩) g3
    generalize hR : pTy s n (takeP s p1 b1 ⟨#[58]⟩) (!nextB s p1 b1 ⟨#[58]⟩) = R at *
    obtain ⟨Rt, Rp, Rb⟩ := R
    dsimp only at hT g5 hP'
    have en1 : M.flatMap eS ++ [.sc (.string w)] = (M ++ [w]).flatMap eS := by rw [List.flatMap_append]; rfl
    have el1 : M.length + 1 = (M ++ [w]).length := by simp
    have en2 : B.flatMap eTy ++ [.sc (.int .i64 Rt.kind), .sl Rt.labels.length (Rt.labels.flatMap eS), .sl Rt.args.length (Rt.args.flatMap eTy)] = (B ++ [Rt]).flatMap eTy := by rw [List.flatMap_append, flat_one, eTy_eta Rt]; rfl
    have el2 : B.length + 1 = (B ++ [Rt]).length := by simp
    have dq : Dq [0, 1, 2, 6] [3, 4, 5, 7] 12 [[0, 1, 6], [0, 1, 6], [6], []] := ⟨⟩
    refine RunX (cast_succ) ?_; repeat' (first | (with_reducible exact True.intro) | (with_reducible refine Lf.mk ?_ ?_) | (with_reducible intro hb))
    refine CalO (cast_succ) (hN) ?_
    refine RunX ((And.intro @en1 @el1)) ?_; repeat' (first | (with_reducible exact True.intro) | (with_reducible refine Lf.mk ?_ ?_) | (with_reducible intro hb))
    refine CalO (cast_succ) (rdNeed_ok s ⟨#[58]⟩ (by omega) (show 1 ≤ 2^48 by omega) p1 g1 b1) ?_
    clear dq
    have dq : Dq [0, 1, 2, 3, 4, 8] [5, 6, 7, 9] 14 [[0, 1, 8], [0, 1, 8], [8], []] := ⟨⟩
    refine RunX (cast_succ) ?_; repeat' (first | (with_reducible exact True.intro) | (with_reducible refine Lf.mk ?_ ?_) | (with_reducible intro hb))
    refine CalO (cast_succ) (hT) ?_
    refine RunX ((And.intro @en2 @el2)) ?_; repeat' (first | (with_reducible exact True.intro) | (with_reducible refine Lf.mk ?_ ?_) | (with_reducible intro hb))
    refine CalO (cast_succ) (rdTake_ok s ⟨#[44]⟩ (by omega) (show 1 ≤ 2^48 by omega) Rp g5.2 Rb) ?_
    refine Run (cast_succ) ?_; repeat' (first | (with_reducible exact True.intro) | (with_reducible refine Lf.mk ?_ ?_) | (with_reducible intro hb))
    have hnx : nextB s Rp Rb ⟨#[44]⟩ = true → takeP s Rp Rb ⟨#[44]⟩ = Rp + 1 ∧ Rp + 1 ≤ s.size := fun hn => ⟨takeP_next hn, by have := nextB_fits hn g5.2; omega⟩
    exact Nxt (cast_succ) ((M ++ [w], B ++ [Rt], takeP s Rp Rb ⟨#[44]⟩, Rb, nextB s Rp Rb ⟨#[44]⟩)) (⟨takeP_le g5.2, by simp [hML], fun hm _ => by dsimp only at hm ⊢; have := (hnx hm).1; rw [← el1]; omega, by dsimp only; rw [← el1]; omega, by rw [← hP']; exact pFields_re hgo (takeP_le g5.2) fun hm _ => by dsimp only at hm ⊢; have := (hnx hm).1; omega⟩) (by
      simp only [and_self, ↓reduceIte]
      split
      · rename_i hm; have := hnx hm.1; omega
      · omega)
  · have hP' := hP
    rw [pFields_stop hc] at hP'
    simp only [Prod.mk.injEq] at hP'
    obtain ⟨rfl, rfl, rfl, rfl⟩ := hP'
    cases more with
    | false =>
      refine Run (cast_succ) ?_; repeat' (first | (with_reducible exact True.intro) | (with_reducible refine Lf.mk ?_ ?_) | (with_reducible intro hb))
      refine CalO (cast_succ) (rdNeed_ok s ⟨#[125]⟩ (by omega) (show 1 ≤ 2^48 by omega) q hqz c) ?_
      refine Run (cast_succ) ?_; repeat' (first | (with_reducible exact True.intro) | (with_reducible refine Lf.mk ?_ ?_) | (with_reducible intro hb))
    | true =>
      have hc2 : c = true := by cases c with | true => rfl | false => exact absurd ⟨rfl, rfl⟩ hc
      subst hc2
      refine Run (cast_succ) ?_; repeat' (first | (with_reducible exact True.intro) | (with_reducible refine Lf.mk ?_ ?_) | (with_reducible intro hb))
      refine CalO (cast_succ) (rdNeed_ok s ⟨#[125]⟩ (by omega) (show 1 ≤ 2^48 by omega) q hqz true) ?_
      refine Run (cast_succ) ?_; repeat' (first | (with_reducible exact True.intro) | (with_reducible refine Lf.mk ?_ ?_) | (with_reducible intro hb))

end Go.VC.T
/- Reading types: what the program's reader does. -/
namespace Go.VC.T
open Go Go.VC Go.Proofs Go.VC.F
set_option linter.unusedSimpArgs false
set_option linter.unusedVariables false
set_option linter.defProp false
set_option maxRecDepth 100000
set_option maxHeartbeats 2000000
theorem flat_two (a c : Ty) : [a, c].flatMap eTy = eTy a ++ eTy c := by simp
/-- What the program's reader of types does. -/
theorem typ_ok (s : ByteArray) (hs : s.size ≤ 2^20) : ∀ n, TypC Try.prog 167 216 s n
  | 0 => fun d p b hd hd0 hp q1 q2 hq12 => by
    obtain rfl : d = 8 := by omega
    exact typ_nil (typ_deep s p b) q1 q2 hq12
  | n + 1 => fun d p b hd hd0 hp q1 q2 hq12 => by
    have H := typ_ok s hs n
    have hd1 : d ≤ 7 := by omega
    rw [pTy]
    cases h1 : nextB s p b ⟨#[73]⟩ with
    | true => exact typ_nil (typ_int s hs p hp b d hd0 hd1 h1) q1 q2 hq12
    | false =>
      simp only [Bool.false_eq_true, ↓reduceIte]
      cases h2 : nextB s p b ⟨#[66]⟩ with
      | true => exact typ_nil (typ_bool s hs p hp b d hd0 hd1 h1 h2) q1 q2 hq12
      | false =>
        simp only [Bool.false_eq_true, ↓reduceIte]
        cases h3 : nextB s p b ⟨#[91]⟩ with
        | true =>
          simp only [↓reduceIte]
          have hb := typ_bag s hs n H p hp b d hd0 (by omega) h1 h2 h3 _ rfl
          rw [← flat_one (E := eTy)] at hb
          exact typ_nl1 (kk := 2004) (a := [(pTy s n (p + 1) b).1]) hb (by decide) q1 q2 hq12
        | false =>
          simp only [Bool.false_eq_true, ↓reduceIte]
          cases h4 : nextB s p b ⟨#[40]⟩ with
          | true =>
            simp only [↓reduceIte]
            have hb := typ_fun s hs n H p hp b d hd0 (by omega) h1 h2 h3 h4 _ rfl _ rfl
            rw [← flat_two] at hb
            exact typ_nl1 (a := [_, _]) hb (by decide) q1 q2 hq12
          | false =>
            simp only [Bool.false_eq_true, ↓reduceIte]
            cases h5 : nextB s p b ⟨#[123]⟩ with
            | true =>
              simp only [↓reduceIte]
              exact typ_os (typ_rec s hs n H p hp b d hd0 (by omega) h1 h2 h3 h4 h5 _ _ _ _ rfl) q1 q2 hq12
            | false => exact typ_nil (typ_none s hs p hp b d hd0 hd1 h1 h2 h3 h4 h5) q1 q2 hq12
end Go.VC.T
/- Types: sizes, depths, kinds that occur: both sides. -/
namespace Go.VC.T
open Go Go.VC Go.Proofs Go.VC.F
set_option linter.unusedSimpArgs false
set_option linter.unusedVariables false
set_option linter.defProp false
set_option maxRecDepth 100000
set_option maxHeartbeats 2000000
def fc213A65 := (And.intro (And.intro (And.intro (And.intro sz3 (And.intro ag3 zv3)) (And.intro un3 (And.intro sz4 ag4))) (And.intro (And.intro zv4 (And.intro un4 sz75)) (And.intro ag75 (And.intro zv75 sb75)))) (And.intro (And.intro (And.intro un75 (And.intro el75 ap75)) (And.intro sz77 (And.intro ag77 zv77))) (And.intro (And.intro fl77_0 (And.intro fl77_1 fl77_2)) (And.intro pl77 (And.intro okf213 sz63)))))
theorem l3Left_of (v : Ty) (h : okTy (2^20) v) (H : ∀ a ∈ v.args, ∀ left : Int, 0 ≤ left ∧ left ≤ 2^20 → FnP Try.prog 213 [agT (eTy a), iT left] (iT (szR (tsz a) left))) (left : Int) (hl : 0 ≤ left ∧ left ≤ 2^20) : FnS Try.prog 213 [] [agT (eTy v), iT left] [] (iT (szR (tsz v) left)) := by
  refine FnS.go [0, 1, 2, 4, 5, 16] [] Try.func213 rfl (fun kt kz => ?_)
  have fcx := fc213A65
  simp only [Try.f213]
  have ho := okTy_iff.1 h
  have hln := ho.2.2.1
  have e0 : left - 1 = szR (1 + tszT v.args 0) left := by rw [tszT_zero]; unfold szR; split <;> omega
  have ev := tsz_eta v
  refine Run ((And.intro @eTy_eta @e0)) ?_; repeat' (first | (with_reducible exact True.intro) | (with_reducible refine Lf.mk ?_ ?_) | (with_reducible intro hb))
  refine Trn (α := Nat) [1, 5, 8, 9, 10, 11, 12, 13, 14, 15, 16, 17, 18, 19, 20, 21, 22, 23, 24, 25] (fun i => [(5, iT i), (1, iT (szR (1 + tszT v.args i) left))]) (fun i => [(4, .box 77 ((eTy v).map .im))]) (fun i => i ≤ v.args.length) (fun i => v.args.length - i) (0) (Nat.zero_le _) (@eTy_eta) ?_; intro lx hI; obtain i := lx; (try simp only [List.nil_append, List.cons_append] at hI ⊢)
  have hs := szR_le (n := 1 + tszT v.args lx) hl.1
  by_cases hlt : lx < v.args.length
  · by_cases hn : 0 ≤ szR (1 + tszT v.args lx) left
    · have gn := eq_true hn
      have e : szR (tsz v.args[lx]) (szR (1 + tszT v.args lx) left) = szR (1 + tszT v.args (lx + 1)) left := by rw [szR_add, tszT_succ hlt, Nat.add_assoc]
      refine Run ((And.intro @eTy_eta (And.intro @hlt @gn))) ?_; repeat' (first | (with_reducible exact True.intro) | (with_reducible refine Lf.mk ?_ ?_) | (with_reducible intro hb))
      refine Cal (@eTy_eta) (H _ (List.getElem_mem hlt) _ ⟨hn, by omega⟩) ?_
      refine Run (@eTy_eta) ?_; repeat' (first | (with_reducible exact True.intro) | (with_reducible refine Lf.mk ?_ ?_) | (with_reducible intro hb))
      exact Nxt ((And.intro @e @eTy_eta)) (lx + 1) (by omega) (by first | omega | (simp; omega))
    · have gn := eq_false hn
      have hle := tszT_le (l := v.args) (i := lx)
      have e : szR (1 + tszT v.args lx) left = szR (tsz v) left := by
        rw [szR_neg (by omega) (show 1 + tszT v.args lx ≤ tsz v by omega)]
        have := szR_spec (1 + tszT v.args lx) left
        omega
      rw [e] at gn
      refine Run ((And.intro (And.intro @eTy_eta @hlt) (And.intro @gn @e))) ?_; repeat' (first | (with_reducible exact True.intro) | (with_reducible refine Lf.mk ?_ ?_) | (with_reducible intro hb))
  · have e : szR (1 + tszT v.args lx) left = szR (tsz v) left := by rw [ev, tszT_all (by omega)]
    refine Run ((And.intro @eTy_eta (And.intro @hlt @e))) ?_; repeat' (first | (with_reducible exact True.intro) | (with_reducible refine Lf.mk ?_ ?_) | (with_reducible intro hb))

theorem l3Left_ok (v : Ty) (h : okTy (2^20) v) (left : Int) (hl : 0 ≤ left ∧ left ≤ 2^20) : FnP Try.prog 213 [agT (eTy v), iT left] (iT (szR (tsz v) left)) :=
  l3Left_of v h (fun u hu l h2 => l3Left_ok u ((okTy_iff.1 h).2.2.2 u hu) l h2) left hl
termination_by SizeOf.sizeOf v
decreasing_by exact Ty.mem hu
def fc217A65 := (And.intro (And.intro (And.intro (And.intro sz3 ag3) (And.intro zv3 (And.intro un3 sz75))) (And.intro (And.intro ag75 zv75) (And.intro sb75 (And.intro un75 el75)))) (And.intro (And.intro (And.intro ap75 sz77) (And.intro ag77 (And.intro zv77 fl77_0))) (And.intro (And.intro fl77_1 fl77_2) (And.intro pl77 (And.intro okf217 sz63)))))
theorem sizeTy_of (v : Ty) (h : okTy (2^20) v) (hz : zTy v ≤ 2^40) (H : ∀ a ∈ v.args, FnP Try.prog 217 [agT (eTy a)] (iT (tsz a : Int))) : FnS Try.prog 217 [] [agT (eTy v)] [] (iT (tsz v : Int)) := by
  refine FnS.go [0, 1, 2, 3, 5, 7, 8, 9, 10] [] Try.func217 rfl (fun kt kz => ?_)
  have fcx := fc217A65
  simp only [Try.f217]
  have ho := okTy_iff.1 h
  have hln := ho.2.2.1
  have ev := tsz_eta v
  have hv := tsz_le v
  refine Run (@eTy_eta) ?_; repeat' (first | (with_reducible exact True.intro) | (with_reducible refine Lf.mk ?_ ?_) | (with_reducible intro hb))
  refine Trn (α := Nat) [3, 5, 9, 10, 11, 12, 13, 14, 15, 16, 17] (fun i => [(9, iT i), (3, iT ((1 + tszT v.args i : Nat) : Int))]) (fun i => [(2, .box 77 ((eTy v).map .im))]) (fun i => i ≤ v.args.length) (fun i => v.args.length - i) (0) (Nat.zero_le _) ((And.intro @eTy_eta (tszT_zero (l := v.args)))) ?_; intro lx hI; obtain i := lx; (try simp only [List.nil_append, List.cons_append] at hI ⊢)
  by_cases hlt : lx < v.args.length
  · have e : ((1 + tszT v.args lx : Nat) : Int) + (tsz v.args[lx] : Int) = ((1 + tszT v.args (lx + 1) : Nat) : Int) := by rw [tszT_succ hlt]; omega
    have hle := tszT_le (l := v.args) (i := lx + 1)
    refine Run ((And.intro @eTy_eta @hlt)) ?_; repeat' (first | (with_reducible exact True.intro) | (with_reducible refine Lf.mk ?_ ?_) | (with_reducible intro hb))
    refine Cal (@eTy_eta) (H _ (List.getElem_mem hlt)) ?_
    refine Run ((And.intro @eTy_eta @e)) ?_; repeat' (first | (with_reducible exact True.intro) | (with_reducible refine Lf.mk ?_ ?_) | (with_reducible intro hb))
    exact Nxt ((And.intro @e @eTy_eta)) (lx + 1) (by omega) (by first | omega | (simp; omega))
  · have e : ((1 + tszT v.args lx : Nat) : Int) = (tsz v : Int) := by rw [ev, tszT_all (by omega)]
    refine Run ((And.intro @eTy_eta (And.intro @hlt @e))) ?_; repeat' (first | (with_reducible exact True.intro) | (with_reducible refine Lf.mk ?_ ?_) | (with_reducible intro hb))

theorem sizeTy_ok (v : Ty) (h : okTy (2^20) v) (hz : zTy v ≤ 2^40) : FnP Try.prog 217 [agT (eTy v)] (iT (tsz v : Int)) :=
  sizeTy_of v h hz fun u hu => sizeTy_ok u ((okTy_iff.1 h).2.2.2 u hu) (Nat.le_trans (zTy_arg hu) hz)
termination_by SizeOf.sizeOf v
decreasing_by exact Ty.mem hu
def fc229A65 := (And.intro (And.intro (And.intro sz3 ag3) (And.intro zv3 un3)) (And.intro (And.intro sz4 ag4) (And.intro zv4 un4)))
theorem l1Max_ok (a b : Int) : FnS Try.prog 229 [] [iT a, iT b] [] (iT (max a b)) := by
  refine FnS.go [0, 1, 4, 7] [] Try.func229 rfl (fun kt kz => ?_)
  have fcx := fc229A65
  simp only [Try.f229]
  by_cases h : b < a
  · have e : max a b = a := by omega
    have g := eq_true h
    refine Run ((And.intro @g @e)) ?_; repeat' (first | (with_reducible exact True.intro) | (with_reducible refine Lf.mk ?_ ?_) | (with_reducible intro hb))
  · have e : max a b = b := by omega
    have g := eq_false h
    refine Run ((And.intro @g @e)) ?_; repeat' (first | (with_reducible exact True.intro) | (with_reducible refine Lf.mk ?_ ?_) | (with_reducible intro hb))
def fc214A65 := (And.intro (And.intro (And.intro (And.intro sz3 (And.intro ag3 zv3)) (And.intro un3 (And.intro sz4 ag4))) (And.intro (And.intro zv4 (And.intro un4 sz75)) (And.intro ag75 (And.intro zv75 sb75)))) (And.intro (And.intro (And.intro un75 (And.intro el75 ap75)) (And.intro sz77 (And.intro ag77 zv77))) (And.intro (And.intro fl77_0 (And.intro fl77_1 fl77_2)) (And.intro (And.intro pl77 okf214) (And.intro okf229 sz63)))))
theorem depTy_of (v : Ty) (h : okTy (2^20) v) (hz : zTy v ≤ 2^40) (H : ∀ a ∈ v.args, FnP Try.prog 214 [agT (eTy a)] (iT (tdp a : Int))) : FnS Try.prog 214 [] [agT (eTy v)] [] (iT (tdp v : Int)) := by
  refine FnS.go [0, 1, 2, 3, 4, 9] [] Try.func214 rfl (fun kt kz => ?_)
  have fcx := fc214A65
  simp only [Try.f214]
  have ho := okTy_iff.1 h
  have hln := ho.2.2.1
  have ev := tdp_eta v
  have h1 := tdp_le v
  have h2 := tsz_le v
  have e0 : (tdpL (v.args.take 0) : Int) = 0 := by simp [tdpL]
  refine Run (@eTy_eta) ?_; repeat' (first | (with_reducible exact True.intro) | (with_reducible refine Lf.mk ?_ ?_) | (with_reducible intro hb))
  refine Trn (α := Nat) [3, 4, 5, 6, 7, 8, 9, 10, 11, 12, 13, 14, 15, 16, 17, 18, 19] (fun i => [(4, iT i), (3, iT (tdpL (v.args.take i) : Int))]) (fun i => [(2, .box 77 ((eTy v).map .im))]) (fun i => i ≤ v.args.length) (fun i => v.args.length - i) (0) (Nat.zero_le _) ((And.intro @eTy_eta @e0)) ?_; intro lx hI; obtain i := lx; (try simp only [List.nil_append, List.cons_append] at hI ⊢)
  by_cases hlt : lx < v.args.length
  · have e : max (tdpL (v.args.take lx) : Int) (tdp v.args[lx] : Int) = (tdpL (v.args.take (lx + 1)) : Int) := by rw [tdpL_succ hlt]; omega
    refine Run ((And.intro @eTy_eta @hlt)) ?_; repeat' (first | (with_reducible exact True.intro) | (with_reducible refine Lf.mk ?_ ?_) | (with_reducible intro hb))
    refine Cal (@eTy_eta) (H _ (List.getElem_mem hlt)) ?_
    refine Run (@eTy_eta) ?_; repeat' (first | (with_reducible exact True.intro) | (with_reducible refine Lf.mk ?_ ?_) | (with_reducible intro hb))
    refine Cal (@eTy_eta) (l1Max_ok _ _) ?_
    refine Run ((And.intro @eTy_eta @e)) ?_; repeat' (first | (with_reducible exact True.intro) | (with_reducible refine Lf.mk ?_ ?_) | (with_reducible intro hb))
    exact Nxt ((And.intro @e @eTy_eta)) (lx + 1) (by omega) (by first | omega | (simp; omega))
  · have e : (tdpL (v.args.take lx) : Int) + 1 = (tdp v : Int) := by rw [ev, List.take_of_length_le (by omega)]; omega
    refine Run ((And.intro @eTy_eta (And.intro @hlt @e))) ?_; repeat' (first | (with_reducible exact True.intro) | (with_reducible refine Lf.mk ?_ ?_) | (with_reducible intro hb))

theorem depTy_ok (v : Ty) (h : okTy (2^20) v) (hz : zTy v ≤ 2^40) : FnP Try.prog 214 [agT (eTy v)] (iT (tdp v : Int)) :=
  depTy_of v h hz fun u hu => depTy_ok u ((okTy_iff.1 h).2.2.2 u hu) (Nat.le_trans (zTy_arg hu) hz)
termination_by SizeOf.sizeOf v
decreasing_by exact Ty.mem hu
def fc231A65 := (And.intro (And.intro (And.intro (And.intro sz3 (And.intro ag3 zv3)) (And.intro un3 (And.intro sz4 ag4))) (And.intro (And.intro zv4 (And.intro un4 sz75)) (And.intro ag75 (And.intro zv75 sb75)))) (And.intro (And.intro (And.intro un75 (And.intro el75 ap75)) (And.intro sz77 (And.intro ag77 zv77))) (And.intro (And.intro fl77_0 (And.intro fl77_1 fl77_2)) (And.intro pl77 (And.intro okf231 sz63)))))
theorem tHas_of (k : Int) (v : Ty) (h : okTy (2^20) v) (H : ∀ a ∈ v.args, FnP Try.prog 231 [agT (eTy a), iT k] (bT (decide (tHas k a)))) : FnS Try.prog 231 [] [agT (eTy v), iT k] [] (bT (decide (tHas k v))) := by
  refine FnS.go [0, 1, 2, 4, 5, 10, 19] [] Try.func231 rfl (fun kt kz => ?_)
  have fcx := fc231A65
  simp only [Try.f231]
  have ho := okTy_iff.1 h
  have hln := ho.2.2.1
  refine Run (@eTy_eta) ?_; repeat' (first | (with_reducible exact True.intro) | (with_reducible refine Lf.mk ?_ ?_) | (with_reducible intro hb))
  refine Trn (α := Nat) [4, 5, 6, 7, 8, 9, 10, 11, 12, 13, 14, 15, 16, 17, 18, 19] (fun i => [(5, iT i)]) (fun i => [(4, .box 77 ((eTy v).map .im))]) (fun i => i ≤ v.args.length ∧ ∀ a ∈ v.args.take i, ¬ tHas k a) (fun i => v.args.length - i) (0) (⟨Nat.zero_le _, fun s hs => by simp at hs⟩) (@eTy_eta) ?_; intro lx hI; obtain i := lx; (try simp only [List.nil_append, List.cons_append] at hI ⊢)
  by_cases hlt : lx < v.args.length
  · refine Run ((And.intro @eTy_eta @hlt)) ?_; repeat' (first | (with_reducible exact True.intro) | (with_reducible refine Lf.mk ?_ ?_) | (with_reducible intro hb))
    refine Cal (@eTy_eta) (H _ (List.getElem_mem hlt)) ?_
    by_cases hf : tHas k v.args[lx]
    · have gf := eq_true hf
      have e : decide (tHas k v) = true := decide_eq_true ((tHas_eta v).2 (.inr ⟨_, List.getElem_mem hlt, hf⟩))
      refine Run ((And.intro @eTy_eta (And.intro @gf @e))) ?_; repeat' (first | (with_reducible exact True.intro) | (with_reducible refine Lf.mk ?_ ?_) | (with_reducible intro hb))
    · have gf := eq_false hf
      refine Run ((And.intro @eTy_eta @gf)) ?_; repeat' (first | (with_reducible exact True.intro) | (with_reducible refine Lf.mk ?_ ?_) | (with_reducible intro hb))
      exact Nxt (@eTy_eta) (lx + 1) (⟨by omega, ball_take hlt hI.2 hf⟩) (by first | omega | (simp; omega))
  · have hall : ∀ a ∈ v.args, ¬ tHas k a := fun s hs => hI.2 s (by rw [List.take_of_length_le (by omega)]; exact hs)
    have e : decide (v.kind = k) = decide (tHas k v) := decide_eq_decide.2 ⟨fun h => (tHas_eta v).2 (.inl h), fun h => ((tHas_eta v).1 h).resolve_right fun ⟨a, ha, h⟩ => hall a ha h⟩
    refine Run ((And.intro @eTy_eta (And.intro @hlt @e))) ?_; repeat' (first | (with_reducible exact True.intro) | (with_reducible refine Lf.mk ?_ ?_) | (with_reducible intro hb))

theorem l3Has_ok (k : Int) (v : Ty) (h : okTy (2^20) v) : FnP Try.prog 231 [agT (eTy v), iT k] (bT (decide (tHas k v))) :=
  tHas_of k v h fun u hu => l3Has_ok k u ((okTy_iff.1 h).2.2.2 u hu)
termination_by SizeOf.sizeOf v
decreasing_by exact Ty.mem hu
end Go.VC.T
/- Types that are right: their form, on both sides. -/
namespace Go.VC.T
open Go Go.VC Go.Proofs Go.VC.F
set_option linter.unusedSimpArgs false
set_option linter.unusedVariables false
set_option linter.defProp false
set_option maxRecDepth 100000
set_option maxHeartbeats 2000000
def fc215A66 := (And.intro (And.intro (And.intro (And.intro (And.intro sz3 ag3) (And.intro zv3 un3)) (And.intro (And.intro sz4 ag4) (And.intro zv4 un4))) (And.intro (And.intro (And.intro sz63 ag63) (And.intro zv63 sb63)) (And.intro (And.intro un63 el63) (And.intro ap63 sz75)))) (And.intro (And.intro (And.intro (And.intro ag75 zv75) (And.intro sb75 un75)) (And.intro (And.intro el75 ap75) (And.intro sz77 ag77))) (And.intro (And.intro (And.intro zv77 fl77_0) (And.intro fl77_1 fl77_2)) (And.intro (And.intro pl77 okf215) (And.intro okf230 okf231)))))
theorem l3Form_of (v : Ty) (h : okTy (2^20) v) (H : ∀ a ∈ v.args, FnP Try.prog 215 [agT (eTy a)] (bT (decide (TF a)))) : FnS Try.prog 215 [] [agT (eTy v)] [] (bT (decide (TF v))) := by
  refine FnS.go [0, 1, 2, 3, 4, 9, 18, 21, 54, 56, 57, 60, 62] [] Try.func215 rfl (fun kt kz => ?_)
  have fcx := fc215A66
  simp only [Try.f215]
  have ho := okTy_iff.1 h
  have hln := ho.2.2.1
  have hls := ho.2.1
  refine Run (@eTy_eta) ?_; repeat' (first | (with_reducible exact True.intro) | (with_reducible refine Lf.mk ?_ ?_) | (with_reducible intro hb))
  refine Trn (α := Nat) [2, 3, 5, 6, 7, 8, 9, 10, 11, 12, 13, 14, 15, 16, 17, 18] (fun i => [(3, iT i)]) (fun i => [(2, .box 77 ((eTy v).map .im))]) (fun i => i ≤ v.args.length ∧ ∀ a ∈ v.args.take i, TF a) (fun i => v.args.length - i) (0) (⟨Nat.zero_le _, fun s hs => by simp at hs⟩) (@eTy_eta) ?_; intro lx hI; obtain i := lx; (try simp only [List.nil_append, List.cons_append] at hI ⊢)
  by_cases hlt : lx < v.args.length
  · refine Run ((And.intro @eTy_eta @hlt)) ?_; repeat' (first | (with_reducible exact True.intro) | (with_reducible refine Lf.mk ?_ ?_) | (with_reducible intro hb))
    refine Cal (@eTy_eta) (H _ (List.getElem_mem hlt)) ?_
    by_cases hf : TF v.args[lx]
    · have gf := eq_true hf
      refine Run ((And.intro @eTy_eta @gf)) ?_; repeat' (first | (with_reducible exact True.intro) | (with_reducible refine Lf.mk ?_ ?_) | (with_reducible intro hb))
      exact Nxt (@eTy_eta) (lx + 1) (⟨by omega, ball_take hlt hI.2 hf⟩) (by first | omega | (simp; omega))
    · have gf := eq_false hf
      have e : decide (TF v) = false := decide_eq_false fun h => hf ((TF_eta v).1 h |>.2 _ (List.getElem_mem hlt))
      refine Run ((And.intro @eTy_eta (And.intro @gf @e))) ?_; repeat' (first | (with_reducible exact True.intro) | (with_reducible refine Lf.mk ?_ ?_) | (with_reducible intro hb))
  · have hall : ∀ a ∈ v.args, TF a := ball_end (by omega) hI.2
    have hv : decide (TF v) = decide (THd v) := decide_eq_decide.2 ⟨fun h => ((TF_eta v).1 h).1, fun h => (TF_eta v).2 ⟨h, hall⟩⟩
    have hno : ¬ THd v → decide (TF v) = false := fun h => by rw [hv]; exact decide_eq_false h
    have hye : THd v → decide (TF v) = true := fun h => by rw [hv]; exact decide_eq_true h
    by_cases k3 : v.kind = 3
    · by_cases ha : (v.args.length : Int) = (v.labels.length : Int)
      · have ga := eq_true ha
        refine Run ((And.intro (And.intro @eTy_eta @hlt) (And.intro @k3 @ga))) ?_; repeat' (first | (with_reducible exact True.intro) | (with_reducible refine Lf.mk ?_ ?_) | (with_reducible intro hb))
        refine Cal (@eTy_eta) (specLabs_ok v.labels hls) ?_
        by_cases hl : LabsOk v.labels
        · have gl := eq_true hl
          refine Run ((And.intro (And.intro @eTy_eta @hlt) (And.intro @gl @k3))) ?_; repeat' (first | (with_reducible exact True.intro) | (with_reducible refine Lf.mk ?_ ?_) | (with_reducible intro hb))
          refine Cal ((And.intro @eTy_eta @k3)) (l3Has_ok 5 v h) ?_
          have e : (!decide (tHas 5 v)) = decide (TF v) := by rw [hv, ← decide_not]; exact decide_eq_decide.2 ⟨fun h => .inl ⟨k3, by omega, hl, h⟩, fun h => by unfold THd at h; rcases h with h | h | h | h <;> first | exact h.2.2.2 | (exfalso; omega)⟩
          refine Run (@e) ?_; repeat' (first | (with_reducible exact True.intro) | (with_reducible refine Lf.mk ?_ ?_) | (with_reducible intro hb))
        · have gl := eq_false hl
          have e := hno (fun h => by unfold THd at h; rcases h with h | h | h | h <;> first | exact hl h.2.2.1 | omega)
          refine Run ((And.intro @gl @e)) ?_; repeat' (first | (with_reducible exact True.intro) | (with_reducible refine Lf.mk ?_ ?_) | (with_reducible intro hb))
      · have ga := eq_false ha
        have e := hno (fun h => by unfold THd at h; omega)
        refine Run ((And.intro (And.intro @eTy_eta @hlt) (And.intro @k3 (And.intro @ga @e)))) ?_; repeat' (first | (with_reducible exact True.intro) | (with_reducible refine Lf.mk ?_ ?_) | (with_reducible intro hb))
    · have g3 := eq_false k3
      by_cases k4 : v.kind = 4
      · by_cases ha : (v.args.length : Int) = 1
        · have ga := eq_true ha
          have h0 : 0 < v.args.length := by omega
          refine Run ((And.intro (And.intro @eTy_eta @hlt) (And.intro @k4 (And.intro @ga @h0)))) ?_; repeat' (first | (with_reducible exact True.intro) | (with_reducible refine Lf.mk ?_ ?_) | (with_reducible intro hb))
          refine Cal (@eTy_eta) (l3Has_ok 5 v.args[0] (ho.2.2.2 _ (List.getElem_mem h0))) ?_
          have hx : (∃ a ∈ v.args, tHas 5 a) ↔ tHas 5 v.args[0] := by
            obtain ⟨a, he⟩ := List.length_eq_one_iff.1 (show v.args.length = 1 by omega)
            simp [he]
          by_cases hf : tHas 5 v.args[0]
          · have gf := eq_true hf
            have e := hno (fun h => by unfold THd at h; rcases h with h | h | h | h <;> first | exact h.2.2.2 (hx.2 hf) | omega)
            refine Run ((And.intro @eTy_eta (And.intro @gf @e))) ?_; repeat' (first | (with_reducible exact True.intro) | (with_reducible refine Lf.mk ?_ ?_) | (with_reducible intro hb))
          · have gf := eq_false hf
            by_cases hl : (v.labels.length : Int) = 0
            · have gl := eq_true hl
              have e := hye (.inr (.inl ⟨k4, by omega, by omega, fun h => hf (hx.1 h)⟩))
              refine Run ((And.intro (And.intro @eTy_eta (And.intro @k4 @gf)) (And.intro @ga (And.intro @gl @e)))) ?_; repeat' (first | (with_reducible exact True.intro) | (with_reducible refine Lf.mk ?_ ?_) | (with_reducible intro hb))
            · have gl := eq_false hl
              have e := hno (fun h => by unfold THd at h; omega)
              refine Run ((And.intro (And.intro @eTy_eta (And.intro @k4 @gf)) (And.intro @ga (And.intro @gl @e)))) ?_; repeat' (first | (with_reducible exact True.intro) | (with_reducible refine Lf.mk ?_ ?_) | (with_reducible intro hb))
        · have ga := eq_false ha
          have e := hno (fun h => by unfold THd at h; omega)
          by_cases hl : (v.labels.length : Int) = 0
          · have gl := eq_true hl
            refine Run ((And.intro (And.intro @eTy_eta (And.intro @hlt @k4)) (And.intro @ga (And.intro @gl @e)))) ?_; repeat' (first | (with_reducible exact True.intro) | (with_reducible refine Lf.mk ?_ ?_) | (with_reducible intro hb))
          · have gl := eq_false hl
            refine Run ((And.intro (And.intro @eTy_eta (And.intro @hlt @k4)) (And.intro @ga (And.intro @gl @e)))) ?_; repeat' (first | (with_reducible exact True.intro) | (with_reducible refine Lf.mk ?_ ?_) | (with_reducible intro hb))
      · have g4 := eq_false k4
        by_cases k12 : v.kind = 1 ∨ v.kind = 2
        · by_cases hl : (v.labels.length : Int) = 0
          · have gl := eq_true hl
            have e : decide ((v.args.length : Int) = 0) = decide (TF v) := by rw [hv]; exact decide_eq_decide.2 ⟨fun h => .inr (.inr (.inl ⟨k12, by omega, by omega⟩)), fun h => by unfold THd at h; omega⟩
            rcases k12 with k | k
            · refine Run ((And.intro (And.intro @eTy_eta @hlt) (And.intro @k (And.intro @gl @e)))) ?_; repeat' (first | (with_reducible exact True.intro) | (with_reducible refine Lf.mk ?_ ?_) | (with_reducible intro hb))
            · refine Run ((And.intro (And.intro @eTy_eta @hlt) (And.intro @k (And.intro @gl @e)))) ?_; repeat' (first | (with_reducible exact True.intro) | (with_reducible refine Lf.mk ?_ ?_) | (with_reducible intro hb))
          · have gl := eq_false hl
            have e := hno (fun h => by unfold THd at h; omega)
            rcases k12 with k | k
            · refine Run ((And.intro (And.intro @eTy_eta @hlt) (And.intro @k (And.intro @gl @e)))) ?_; repeat' (first | (with_reducible exact True.intro) | (with_reducible refine Lf.mk ?_ ?_) | (with_reducible intro hb))
            · refine Run ((And.intro (And.intro @eTy_eta @hlt) (And.intro @k (And.intro @gl @e)))) ?_; repeat' (first | (with_reducible exact True.intro) | (with_reducible refine Lf.mk ?_ ?_) | (with_reducible intro hb))
        · have g1 : (v.kind = 1) = False := eq_false (by omega)
          have g2 : (v.kind = 2) = False := eq_false (by omega)
          by_cases k5 : v.kind = 5
          · by_cases hl : (v.labels.length : Int) = 0
            · have gl := eq_true hl
              have e : decide ((v.args.length : Int) = 2) = decide (TF v) := by rw [hv]; exact decide_eq_decide.2 ⟨fun h => .inr (.inr (.inr ⟨k5, by omega, by omega⟩)), fun h => by unfold THd at h; omega⟩
              refine Run ((And.intro (And.intro @eTy_eta @hlt) (And.intro @k5 (And.intro @gl @e)))) ?_; repeat' (first | (with_reducible exact True.intro) | (with_reducible refine Lf.mk ?_ ?_) | (with_reducible intro hb))
            · have gl := eq_false hl
              have e := hno (fun h => by unfold THd at h; omega)
              refine Run ((And.intro (And.intro @eTy_eta @hlt) (And.intro @k5 (And.intro @gl @e)))) ?_; repeat' (first | (with_reducible exact True.intro) | (with_reducible refine Lf.mk ?_ ?_) | (with_reducible intro hb))
          · have g5 := eq_false k5
            have e := hno (fun h => by unfold THd at h; omega)
            have hm : ((v.args.length : Int) = -1) = False := eq_false (by omega)
            by_cases hl : (v.labels.length : Int) = 0
            · have gl := eq_true hl
              refine Run ((And.intro (And.intro (And.intro @eTy_eta @hlt) (And.intro @g1 (And.intro @g2 @g3))) (And.intro (And.intro @g4 @g5) (And.intro @hm (And.intro @gl @e))))) ?_; repeat' (first | (with_reducible exact True.intro) | (with_reducible refine Lf.mk ?_ ?_) | (with_reducible intro hb))
            · have gl := eq_false hl
              refine Run ((And.intro (And.intro (And.intro @eTy_eta @hlt) (And.intro @g1 (And.intro @g2 @g3))) (And.intro (And.intro @g4 @g5) (And.intro @hm (And.intro @gl @e))))) ?_; repeat' (first | (with_reducible exact True.intro) | (with_reducible refine Lf.mk ?_ ?_) | (with_reducible intro hb))

theorem l3Form_ok (v : Ty) (h : okTy (2^20) v) : FnP Try.prog 215 [agT (eTy v)] (bT (decide (TF v))) :=
  l3Form_of v h fun u hu => l3Form_ok u ((okTy_iff.1 h).2.2.2 u hu)
termination_by SizeOf.sizeOf v
decreasing_by exact Ty.mem hu
def fc182A66 := (And.intro (And.intro (And.intro (And.intro sz3 ag3) (And.intro zv3 (And.intro un3 sz4))) (And.intro (And.intro ag4 zv4) (And.intro un4 (And.intro sz77 ag77)))) (And.intro (And.intro (And.intro zv77 fl77_0) (And.intro fl77_1 (And.intro fl77_2 pl77))) (And.intro (And.intro okf213 okf214) (And.intro okf215 (And.intro sz63 sz75)))))
theorem specTyOk_ok (v : Ty) (h : okTy (2^20) v) (hz : zTy v ≤ 2^40) : FnS Try.prog 182 [] [agT (eTy v)] [] (bT (decide (TyOk v))) := by
  refine FnS.go [0, 1, 2] [] Try.func182 rfl (fun kt kz => ?_)
  have fcx := fc182A66
  simp only [Try.f182]
  have hs := szR_spec (tsz v) 24
  refine Run (@eTy_eta) ?_; repeat' (first | (with_reducible exact True.intro) | (with_reducible refine Lf.mk ?_ ?_) | (with_reducible intro hb))
  refine Cal (@eTy_eta) (l3Left_ok v h 24 ⟨by omega, by omega⟩) ?_
  by_cases hz1 : 0 ≤ szR (tsz v) 24
  · have gz := eq_true hz1
    refine Run ((And.intro @eTy_eta @gz)) ?_; repeat' (first | (with_reducible exact True.intro) | (with_reducible refine Lf.mk ?_ ?_) | (with_reducible intro hb))
    refine Cal (@eTy_eta) (depTy_ok v h hz) ?_
    by_cases hd : (tdp v : Int) ≤ 7
    · have gd := eq_true hd
      have e : decide (TF v) = decide (TyOk v) := decide_eq_decide.2 ⟨fun h => ⟨by omega, by omega, h⟩, fun h => h.2.2⟩
      refine Run ((And.intro @eTy_eta @gd)) ?_; repeat' (first | (with_reducible exact True.intro) | (with_reducible refine Lf.mk ?_ ?_) | (with_reducible intro hb))
      refine Cal (@eTy_eta) (l3Form_ok v h) ?_
      refine Run (@e) ?_; repeat' (first | (with_reducible exact True.intro) | (with_reducible refine Lf.mk ?_ ?_) | (with_reducible intro hb))
    · have gd := eq_false hd
      have e : decide (TyOk v) = false := decide_eq_false fun h => by have := h.2.1; omega
      refine Run ((And.intro @eTy_eta (And.intro @gd @e))) ?_; repeat' (first | (with_reducible exact True.intro) | (with_reducible refine Lf.mk ?_ ?_) | (with_reducible intro hb))
  · have gz := eq_false hz1
    have e : decide (TyOk v) = false := decide_eq_false fun h => by have := h.1; omega
    refine Run ((And.intro @eTy_eta (And.intro @gz @e))) ?_; repeat' (first | (with_reducible exact True.intro) | (with_reducible refine Lf.mk ?_ ?_) | (with_reducible intro hb))
def fc183A66 := (And.intro (And.intro (And.intro (And.intro sz3 ag3) (And.intro zv3 un3)) (And.intro (And.intro sz4 ag4) (And.intro zv4 un4))) (And.intro (And.intro (And.intro sz77 ag77) (And.intro zv77 fl77_0)) (And.intro (And.intro fl77_1 fl77_2) (And.intro pl77 (And.intro sz63 sz75)))))
theorem l3Base_ok (v : Ty) : FnS Try.prog 183 [] [agT (eTy v)] [] (bT (decide (plainK v))) := by
  refine FnS.go [0, 1, 2] [] Try.func183 rfl (fun kt kz => ?_)
  have fcx := fc183A66
  simp only [Try.f183]
  by_cases k1 : v.kind = 1
  · have e : decide (plainK v) = true := decide_eq_true (.inl k1)
    refine Run ((And.intro @eTy_eta (And.intro @k1 @e))) ?_; repeat' (first | (with_reducible exact True.intro) | (with_reducible refine Lf.mk ?_ ?_) | (with_reducible intro hb))
  · have e : decide (v.kind = 2) = decide (plainK v) := decide_eq_decide.2 ⟨fun h => .inr h, fun h => h.resolve_left k1⟩
    have g1 := eq_false k1
    refine Run ((And.intro @eTy_eta (And.intro @g1 @e))) ?_; repeat' (first | (with_reducible exact True.intro) | (with_reducible refine Lf.mk ?_ ?_) | (with_reducible intro hb))
def fc150A66 := (And.intro (And.intro (And.intro (And.intro sz3 (And.intro ag3 zv3)) (And.intro un3 (And.intro sz4 ag4))) (And.intro (And.intro zv4 (And.intro un4 sz75)) (And.intro ag75 (And.intro zv75 sb75)))) (And.intro (And.intro (And.intro un75 (And.intro el75 ap75)) (And.intro sz77 (And.intro ag77 zv77))) (And.intro (And.intro fl77_0 (And.intro fl77_1 fl77_2)) (And.intro (And.intro pl77 okf182) (And.intro okf183 sz63)))))
theorem specRow_ok (v : Ty) (h : okTy (2^20) v) (hz : zTy v ≤ 2^40) : FnS Try.prog 150 [] [agT (eTy v)] [] (bT (decide (RowOk' v))) := by
  refine FnS.go [0, 1, 2, 3, 11, 16, 25] [] Try.func150 rfl (fun kt kz => ?_)
  have fcx := fc150A66
  simp only [Try.f150]
  have ho := okTy_iff.1 h
  have hln := ho.2.2.1
  refine Run (@eTy_eta) ?_; repeat' (first | (with_reducible exact True.intro) | (with_reducible refine Lf.mk ?_ ?_) | (with_reducible intro hb))
  refine Cal (@eTy_eta) (specTyOk_ok v h hz) ?_
  by_cases ht : TyOk v
  · have gt := eq_true ht
    by_cases k3 : v.kind = 3
    · have g3 := eq_true k3
      refine Run ((And.intro @eTy_eta (And.intro @gt @g3))) ?_; repeat' (first | (with_reducible exact True.intro) | (with_reducible refine Lf.mk ?_ ?_) | (with_reducible intro hb))
      refine Trn (α := Nat) [2, 3, 12, 13, 14, 15, 16, 17, 18, 19, 20, 21, 22, 23, 24, 25] (fun i => [(3, iT i)]) (fun i => [(2, .box 77 ((eTy v).map .im))]) (fun i => i ≤ v.args.length ∧ ∀ a ∈ v.args.take i, plainK a) (fun i => v.args.length - i) (0) (⟨Nat.zero_le _, fun s hs => by simp at hs⟩) (@eTy_eta) ?_; intro lx hI; obtain i := lx; (try simp only [List.nil_append, List.cons_append] at hI ⊢)
      by_cases hlt : lx < v.args.length
      · refine Run ((And.intro @eTy_eta @hlt)) ?_; repeat' (first | (with_reducible exact True.intro) | (with_reducible refine Lf.mk ?_ ?_) | (with_reducible intro hb))
        refine Cal (@eTy_eta) (l3Base_ok v.args[lx]) ?_
        by_cases hf : plainK v.args[lx]
        · have gf := eq_true hf
          refine Run ((And.intro @eTy_eta @gf)) ?_; repeat' (first | (with_reducible exact True.intro) | (with_reducible refine Lf.mk ?_ ?_) | (with_reducible intro hb))
          exact Nxt (@eTy_eta) (lx + 1) (⟨by omega, ball_take hlt hI.2 hf⟩) (by first | omega | (simp; omega))
        · have gf := eq_false hf
          have e : decide (RowOk' v) = false := decide_eq_false fun h => hf (h.2.2 _ (List.getElem_mem hlt))
          refine Run ((And.intro @eTy_eta (And.intro @gf @e))) ?_; repeat' (first | (with_reducible exact True.intro) | (with_reducible refine Lf.mk ?_ ?_) | (with_reducible intro hb))
      · have e : decide (RowOk' v) = true := decide_eq_true ⟨ht, k3, ball_end (by omega) hI.2⟩
        refine Run ((And.intro @eTy_eta (And.intro @hlt @e))) ?_; repeat' (first | (with_reducible exact True.intro) | (with_reducible refine Lf.mk ?_ ?_) | (with_reducible intro hb))
    · have g3 := eq_false k3
      have e : decide (RowOk' v) = false := decide_eq_false fun h => k3 h.2.1
      refine Run ((And.intro (And.intro @eTy_eta @gt) (And.intro @g3 @e))) ?_; repeat' (first | (with_reducible exact True.intro) | (with_reducible refine Lf.mk ?_ ?_) | (with_reducible intro hb))
  · have gt := eq_false ht
    have e : decide (RowOk' v) = false := decide_eq_false fun h => ht h.1
    refine Run ((And.intro @eTy_eta (And.intro @gt @e))) ?_; repeat' (first | (with_reducible exact True.intro) | (with_reducible refine Lf.mk ?_ ?_) | (with_reducible intro hb))

end Go.VC.T
/- Types that are right: by the program; row types, schemas on both sides. -/
namespace Go.VC
open Go
theorem tMany_map (v : Ty) : (if v.kind = 5 then Value.int .i64 2 else if v.kind = 4 then Value.int .i64 1 else if v.kind = 3 then Value.int .i64 (v.labels.length : Int) else Value.int .i64 0) = Value.int .i64 (tMany v : Int) := by
  unfold tMany
  by_cases h3 : v.kind = 3
  · simp [h3]
  · by_cases h5 : v.kind = 5
    · simp [h5]
    · by_cases h4 : v.kind = 4
      · simp [h4]
      · simp [h3, h4, h5]
def TFb (t : Ty) (b : Bool) (deep : Int) : Prop := TFd t (b = true) deep
noncomputable instance (t : Ty) (b : Bool) (d : Int) : Decidable (TFb t b d) := Classical.propDecidable _
theorem TFb_iff (t : Ty) (b c : Bool) (deep : Int) (h : (b = true ∨ t.kind = 3 ∨ t.kind = 4) = (c = true)) : TFb t b deep ↔ TNd t (b = true) deep ∧ ∀ a ∈ t.args, TFb a c (deep + 1) := by
  unfold TFb
  rw [TFd_iff, h]
theorem mput43 (f : Value → Option Value) (u v : Value) : mput (mput f (.int .i64 4) v) (.int .i64 3) u = mput (mput f (.int .i64 3) u) (.int .i64 4) v := mput_comm f v u (by simp)
theorem mput53 (f : Value → Option Value) (u v : Value) : mput (mput f (.int .i64 5) v) (.int .i64 3) u = mput (mput f (.int .i64 3) u) (.int .i64 5) v := mput_comm f v u (by simp)
theorem mput54 (f : Value → Option Value) (u v : Value) : mput (mput f (.int .i64 5) v) (.int .i64 4) u = mput (mput f (.int .i64 4) u) (.int .i64 5) v := mput_comm f v u (by simp)
end Go.VC
namespace Go.VC.T
open Go Go.VC Go.Proofs Go.VC.F
set_option linter.unusedSimpArgs false
set_option linter.unusedVariables false
set_option linter.defProp false
set_option maxRecDepth 100000
set_option maxHeartbeats 2000000
def fc216A67 := (And.intro (And.intro (And.intro (And.intro (And.intro sz3 ag3) (And.intro zv3 un3)) (And.intro (And.intro sz4 ag4) (And.intro zv4 (And.intro un4 sz63)))) (And.intro (And.intro (And.intro ag63 zv63) (And.intro sb63 (And.intro un63 el63))) (And.intro (And.intro ap63 sz75) (And.intro ag75 (And.intro zv75 sb75))))) (And.intro (And.intro (And.intro (And.intro un75 el75) (And.intro ap75 (And.intro sz77 ag77))) (And.intro (And.intro zv77 fl77_0) (And.intro fl77_1 (And.intro fl77_2 pl77)))) (And.intro (And.intro (And.intro sz159 ag159) (And.intro zv159 (And.intro un159 sz266))) (And.intro (And.intro ag266 zv266) (And.intro mp266 (And.intro okf216 okf232))))))
theorem typeForm_loop (v : Ty) (h : okTy (2^20) v) (rest : List IV) (b : Bool) (deep : Int) (hd : 0 ≤ deep ∧ deep ≤ 8) (H : ∀ a ∈ v.args, ∀ (rest : List IV) (b : Bool) (d : Int) (hd : 0 ≤ d ∧ d ≤ 8), FnP Try.prog 216 [.c (.im (.pt (eTy a ++ rest))), bT b, iT d] (bT (decide (TFb a b d)))) : FnS Try.prog 216 [] [.c (.im (.pt (eTy v ++ rest))), bT b, iT deep] [] (bT (decide (TFb v b deep))) := by
  refine FnS.go [0, 1, 2, 6, 7, 8, 9, 22, 48, 102, 103, 104, 116] [] Try.func216 rfl (fun kt kz => ?_)
  have fcx := fc216A67
  simp only [Try.f216]
  have ho := okTy_iff.1 h
  have hln := ho.2.2.1
  have hls := ho.2.1
  have hm := tMany_map v
  have hno : ¬ TNd v (b = true) deep → decide (TFb v b deep) = false := fun h => decide_eq_false fun h' => h ((TFd_iff v _ deep).1 h').1
  refine Run ((eTy_eta v)) ?_; repeat' (first | (with_reducible exact True.intro) | (with_reducible refine Lf.mk ?_ ?_) | (with_reducible intro hb))
  refine Sm.drawG [3, 4, 5, 6, 7, 10, 11, 12, 13] 12 [(0, [], [3, 4, 5, 6, 7, 10, 11, 12, 13]), (1, [0], [3, 4, 5, 6, 7, 10, 11, 12, 13]), (2, [0], [3, 4, 5, 6, 7, 10, 11, 12, 13]), (8, [0], [10, 11, 12, 13]), (9, [1, 2, 8], [10, 11, 12, 13]), (14, [9], []), (15, [14], [])] mixed (by decide +kernel) (by decide) (by (simp only [List.filterMap_cons, List.filterMap_nil, List.getElem?_toArray, List.getElem?_cons_succ, List.getElem?_cons_zero]); exact rfl) ?_ ?_ ?_
  rotate_left
  · have fx := (eTy_eta v)
    simp -dsimp (maxSteps := 2000000) (disch := omega) only [vs, ↓Option.bind_some, ev1, ofV, scalarB, Kn, Kb, calleeOf, evLoad, ptr, evField, evFieldAddr, shift, ↓pt_at, ↓pt_at1, evExtract, evBin, evLen, evConv, cellsT, noS, Cell.has, Cell.hasN, Cell.anyN, toIV, toIV0, toIVs, ownC, srcM, Ob.own, Ob.esz, allSc, nilK, lenC, ownCell, isPtr, ptrNil, frzO, Cell.frz, Cell.keys, ↓reduceIte, reduceCtorEq, Nat.reduceEqDiff, Nat.reduceBEq, Nat.reduceBNe, Nat.reduceAdd, Nat.reduceMul, Nat.reduceSub, Nat.reduceLT, Nat.reduceLeDiff, Nat.reducePow, Int.reduceLT, Int.reduceLE, Int.reduceEq, Int.reduceNe, quietB, Nat.reduceMod, Int.reduceToNat, ne_eq, eq_self, exists_const, evBytes, byRow, byL, byStr_size, ifsz, ByteArray.size_append, Option.none_or, Option.some_or, evLook, keyD, qX_nil, qX_cons, apQ, opsM_nil, opsM_cons, solI_nil, solI_cons, solE, Option.isSome_some, true_or, or_true, true_and, allSc_eS, allSc_eI, flat_len', Nat.mul_one, Nat.zero_add, List.nil_append, List.append_nil, fcx, fx]
    repeat' (first
      | (with_reducible refine goAN)
      | (with_reducible exact goWt (by with_unfolding_all exact rfl))
      | ((with_reducible refine goOne (by simp only [List.getElem?_toArray, List.getElem?_cons_succ, List.getElem?_cons_zero]; exact rfl) (by simp only [List.filter_cons, List.filter_nil, Nat.reduceBNe, ↓reduceIte, Bool.false_eq_true]; exact rfl) ?_); simp -dsimp (maxSteps := 2000000) (disch := omega) only [vs, ↓Option.bind_some, ev1, ofV, scalarB, Kn, Kb, calleeOf, evLoad, ptr, evField, evFieldAddr, shift, ↓pt_at, ↓pt_at1, evExtract, evBin, evLen, evConv, cellsT, noS, Cell.has, Cell.hasN, Cell.anyN, toIV, toIV0, toIVs, ownC, srcM, Ob.own, Ob.esz, allSc, nilK, lenC, ownCell, isPtr, ptrNil, frzO, Cell.frz, Cell.keys, ↓reduceIte, reduceCtorEq, Nat.reduceEqDiff, Nat.reduceBEq, Nat.reduceBNe, Nat.reduceAdd, Nat.reduceMul, Nat.reduceSub, Nat.reduceLT, Nat.reduceLeDiff, Nat.reducePow, Int.reduceLT, Int.reduceLE, Int.reduceEq, Int.reduceNe, quietB, Nat.reduceMod, Int.reduceToNat, ne_eq, eq_self, exists_const, evBytes, byRow, byL, byStr_size, ifsz, ByteArray.size_append, Option.none_or, Option.some_or, evLook, keyD, qX_nil, qX_cons, apQ, opsM_nil, opsM_cons, solI_nil, solI_cons, solE, Option.isSome_some, true_or, or_true, true_and, allSc_eS, allSc_eI, flat_len', Nat.mul_one, Nat.zero_add, List.nil_append, List.append_nil, fcx, fx])
      | (with_reducible refine goAC ?_ ?_)
      | (with_reducible refine goOG ?_)
      | (with_reducible refine goOZ ?_))
    all_goals (simp only [mput43, mput53, mput54, mget_putI, mget_no, hm]; try exact rfl)
  simp only [Kn, Kb, ↓reduceIte, Nat.reduceEqDiff]
  with_reducible refine Cont.keepK kt ?_
  simp only [keepE, memN, delN, ↓reduceIte, Nat.reduceEqDiff, Bool.false_eq_true]
  by_cases c1 : v.kind < 1
  · have e := hno fun h => by have := h.1; omega
    have g1 := eq_true c1
    refine Run ((And.intro (eTy_eta v) (And.intro @g1 @e))) ?_; repeat' (first | (with_reducible exact True.intro) | (with_reducible refine Lf.mk ?_ ?_) | (with_reducible intro hb))
  · have g1 := eq_false c1
    by_cases c2 : 5 < v.kind
    · have e := hno fun h => by have := h.2.1; omega
      have g2 := eq_true c2
      refine Run ((And.intro (And.intro (eTy_eta v) @g1) (And.intro @g2 @e))) ?_; repeat' (first | (with_reducible exact True.intro) | (with_reducible refine Lf.mk ?_ ?_) | (with_reducible intro hb))
    · have g2 := eq_false c2
      by_cases c3 : 7 < deep
      · have e := hno fun h => by have := h.2.2.1; omega
        have g3 := eq_true c3
        refine Run ((And.intro (And.intro (eTy_eta v) @g1) (And.intro @g2 (And.intro @g3 @e)))) ?_; repeat' (first | (with_reducible exact True.intro) | (with_reducible refine Lf.mk ?_ ?_) | (with_reducible intro hb))
      · have g3 := eq_false c3
        by_cases c4 : (v.args.length : Int) = (tMany v : Int)
        · have g4 := eq_true c4
          have c4' : v.args.length = tMany v := by omega
          cases b with
          | true =>
            by_cases k3 : v.kind = 3
            · have gk5 : (v.kind = 5) = False := eq_false (by omega)
              have gk3 := eq_true k3
              refine Run ((And.intro (And.intro (eTy_eta v) (And.intro @g1 @g2)) (And.intro (And.intro @g3 @g4) (And.intro @gk5 @gk3)))) ?_; repeat' (first | (with_reducible exact True.intro) | (with_reducible refine Lf.mk ?_ ?_) | (with_reducible intro hb))
              refine Cal ((eTy_eta v)) (implLabs_ok v.labels hls) ?_
              by_cases hl : LabsOk v.labels
              · have gl := eq_true hl
                have hT : TNd v (true = true) deep := ⟨by omega, by omega, by omega, c4', fun h => by omega, fun _ => hl, fun h => absurd k3 h⟩
                refine Run ((And.intro (eTy_eta v) (And.intro @gk3 @gl))) ?_; repeat' (first | (with_reducible exact True.intro) | (with_reducible refine Lf.mk ?_ ?_) | (with_reducible intro hb))
                have hP : (true = true ∨ v.kind = 3 ∨ v.kind = 4) = (true = true) := by simp [k3]
                have hiff := TFb_iff v true _ deep hP
                refine Trn (α := Nat) [6, 9, 103, 104, 105, 106, 107, 108, 109, 110, 111, 112, 113, 114, 115, 116, 117] (fun i => [(103, iT i)]) (fun i => []) (fun i => i ≤ v.args.length ∧ ∀ a ∈ v.args.take i, TFb a true (deep + 1)) (fun i => v.args.length - i) (0) (⟨Nat.zero_le _, fun s hs => by simp at hs⟩) ((eTy_eta v)) ?_; intro lx hI; obtain i := lx; (try simp only [List.nil_append, List.cons_append] at hI ⊢)
                by_cases hlt : lx < v.args.length
                · refine Run ((And.intro (eTy_eta v) @hlt)) ?_; repeat' (first | (with_reducible exact True.intro) | (with_reducible refine Lf.mk ?_ ?_) | (with_reducible intro hb))
                  refine Cal ((eTy_eta v)) (H _ (List.getElem_mem hlt) _ true (deep + 1) ⟨by omega, by omega⟩) ?_
                  by_cases hf : TFb v.args[lx] true (deep + 1)
                  · have gf := eq_true hf
                    refine Run (@gf) ?_; repeat' (first | (with_reducible exact True.intro) | (with_reducible refine Lf.mk ?_ ?_) | (with_reducible intro hb))
                    exact Nxt ((eTy_eta v)) (lx + 1) (⟨by omega, ball_take hlt hI.2 hf⟩) (by first | omega | (simp; omega))
                  · have gf := eq_false hf
                    have e : decide (TFb v true deep) = false := decide_eq_false fun h => hf ((hiff.1 h).2 _ (List.getElem_mem hlt))
                    refine Run ((And.intro @gf @e)) ?_; repeat' (first | (with_reducible exact True.intro) | (with_reducible refine Lf.mk ?_ ?_) | (with_reducible intro hb))
                · have e : decide (TFb v true deep) = true := decide_eq_true (hiff.2 ⟨hT, ball_end (by omega) hI.2⟩)
                  refine Run ((And.intro @hlt @e)) ?_; repeat' (first | (with_reducible exact True.intro) | (with_reducible refine Lf.mk ?_ ?_) | (with_reducible intro hb))
              · have gl := eq_false hl
                have e := hno fun h => hl (h.2.2.2.2.2.1 k3)
                refine Run ((And.intro (And.intro (eTy_eta v) @gk5) (And.intro @gk3 (And.intro @gl @e)))) ?_; repeat' (first | (with_reducible exact True.intro) | (with_reducible refine Lf.mk ?_ ?_) | (with_reducible intro hb))
            · have gk3 := eq_false k3
              by_cases hl : 0 < (v.labels.length : Int)
              · have gl := eq_true hl
                have e := hno fun h => by have := h.2.2.2.2.2.2 k3; omega
                by_cases k5 : v.kind = 5
                · have gk5 := eq_true k5
                  refine Run ((And.intro (And.intro (And.intro (eTy_eta v) @g1) (And.intro @g2 @g3)) (And.intro (And.intro @g4 @gk5) (And.intro @gk3 (And.intro @gl @e))))) ?_; repeat' (first | (with_reducible exact True.intro) | (with_reducible refine Lf.mk ?_ ?_) | (with_reducible intro hb))
                · have gk5 := eq_false k5
                  refine Run ((And.intro (And.intro (And.intro (eTy_eta v) @g1) (And.intro @g2 @g3)) (And.intro (And.intro @g4 @gk5) (And.intro @gk3 (And.intro @gl @e))))) ?_; repeat' (first | (with_reducible exact True.intro) | (with_reducible refine Lf.mk ?_ ?_) | (with_reducible intro hb))
              · have gl := eq_false hl
                by_cases k5 : v.kind = 5
                · have gk5 := eq_true k5
                  have e := hno fun h => h.2.2.2.2.1 ⟨k5, rfl⟩
                  refine Run ((And.intro (And.intro (And.intro (eTy_eta v) @g1) (And.intro @g2 @g3)) (And.intro (And.intro @g4 @gk5) (And.intro @gk3 (And.intro @gl @e))))) ?_; repeat' (first | (with_reducible exact True.intro) | (with_reducible refine Lf.mk ?_ ?_) | (with_reducible intro hb))
                · have gk5 := eq_false k5
                  have hT : TNd v (true = true) deep := ⟨by omega, by omega, by omega, c4', fun h => k5 h.1, fun h => absurd h k3, fun _ => by omega⟩
                  by_cases k4 : v.kind = 4
                  · have gk4 := eq_true k4
                    refine Run ((And.intro (And.intro (And.intro (eTy_eta v) @g1) (And.intro @g2 @g3)) (And.intro (And.intro @g4 @gk5) (And.intro @gk4 (And.intro @gk3 @gl))))) ?_; repeat' (first | (with_reducible exact True.intro) | (with_reducible refine Lf.mk ?_ ?_) | (with_reducible intro hb))
                    have hP : (true = true ∨ v.kind = 3 ∨ v.kind = 4) = (true = true) := by simp [k4]
                    have hiff := TFb_iff v true _ deep hP
                    refine Trn (α := Nat) [6, 9, 103, 104, 105, 106, 107, 108, 109, 110, 111, 112, 113, 114, 115, 116, 117] (fun i => [(103, iT i)]) (fun i => []) (fun i => i ≤ v.args.length ∧ ∀ a ∈ v.args.take i, TFb a true (deep + 1)) (fun i => v.args.length - i) (0) (⟨Nat.zero_le _, fun s hs => by simp at hs⟩) ((eTy_eta v)) ?_; intro lx hI; obtain i := lx; (try simp only [List.nil_append, List.cons_append] at hI ⊢)
                    by_cases hlt : lx < v.args.length
                    · refine Run ((And.intro (eTy_eta v) @hlt)) ?_; repeat' (first | (with_reducible exact True.intro) | (with_reducible refine Lf.mk ?_ ?_) | (with_reducible intro hb))
                      refine Cal ((eTy_eta v)) (H _ (List.getElem_mem hlt) _ true (deep + 1) ⟨by omega, by omega⟩) ?_
                      by_cases hf : TFb v.args[lx] true (deep + 1)
                      · have gf := eq_true hf
                        refine Run (@gf) ?_; repeat' (first | (with_reducible exact True.intro) | (with_reducible refine Lf.mk ?_ ?_) | (with_reducible intro hb))
                        exact Nxt ((eTy_eta v)) (lx + 1) (⟨by omega, ball_take hlt hI.2 hf⟩) (by first | omega | (simp; omega))
                      · have gf := eq_false hf
                        have e : decide (TFb v true deep) = false := decide_eq_false fun h => hf ((hiff.1 h).2 _ (List.getElem_mem hlt))
                        refine Run ((And.intro @gf @e)) ?_; repeat' (first | (with_reducible exact True.intro) | (with_reducible refine Lf.mk ?_ ?_) | (with_reducible intro hb))
                    · have e : decide (TFb v true deep) = true := decide_eq_true (hiff.2 ⟨hT, ball_end (by omega) hI.2⟩)
                      refine Run ((And.intro @hlt @e)) ?_; repeat' (first | (with_reducible exact True.intro) | (with_reducible refine Lf.mk ?_ ?_) | (with_reducible intro hb))
                  · have gk4 := eq_false k4
                    refine Run ((And.intro (And.intro (And.intro (eTy_eta v) @g1) (And.intro @g2 @g3)) (And.intro (And.intro @g4 @gk5) (And.intro @gk4 (And.intro @gk3 @gl))))) ?_; repeat' (first | (with_reducible exact True.intro) | (with_reducible refine Lf.mk ?_ ?_) | (with_reducible intro hb))
                    have hP : (true = true ∨ v.kind = 3 ∨ v.kind = 4) = (true = true) := by simp [k3, k4]
                    have hiff := TFb_iff v true _ deep hP
                    refine Trn (α := Nat) [6, 9, 103, 104, 105, 106, 107, 108, 109, 110, 111, 112, 113, 114, 115, 116, 117] (fun i => [(103, iT i)]) (fun i => []) (fun i => i ≤ v.args.length ∧ ∀ a ∈ v.args.take i, TFb a true (deep + 1)) (fun i => v.args.length - i) (0) (⟨Nat.zero_le _, fun s hs => by simp at hs⟩) ((eTy_eta v)) ?_; intro lx hI; obtain i := lx; (try simp only [List.nil_append, List.cons_append] at hI ⊢)
                    by_cases hlt : lx < v.args.length
                    · refine Run ((And.intro (eTy_eta v) @hlt)) ?_; repeat' (first | (with_reducible exact True.intro) | (with_reducible refine Lf.mk ?_ ?_) | (with_reducible intro hb))
                      refine Cal ((eTy_eta v)) (H _ (List.getElem_mem hlt) _ true (deep + 1) ⟨by omega, by omega⟩) ?_
                      by_cases hf : TFb v.args[lx] true (deep + 1)
                      · have gf := eq_true hf
                        refine Run (@gf) ?_; repeat' (first | (with_reducible exact True.intro) | (with_reducible refine Lf.mk ?_ ?_) | (with_reducible intro hb))
                        exact Nxt ((eTy_eta v)) (lx + 1) (⟨by omega, ball_take hlt hI.2 hf⟩) (by first | omega | (simp; omega))
                      · have gf := eq_false hf
                        have e : decide (TFb v true deep) = false := decide_eq_false fun h => hf ((hiff.1 h).2 _ (List.getElem_mem hlt))
                        refine Run ((And.intro @gf @e)) ?_; repeat' (first | (with_reducible exact True.intro) | (with_reducible refine Lf.mk ?_ ?_) | (with_reducible intro hb))
                    · have e : decide (TFb v true deep) = true := decide_eq_true (hiff.2 ⟨hT, ball_end (by omega) hI.2⟩)
                      refine Run ((And.intro @hlt @e)) ?_; repeat' (first | (with_reducible exact True.intro) | (with_reducible refine Lf.mk ?_ ?_) | (with_reducible intro hb))
          | false =>
            by_cases k3 : v.kind = 3
            · have gk5 : (v.kind = 5) = False := eq_false (by omega)
              have gk3 := eq_true k3
              refine Run ((And.intro (And.intro (eTy_eta v) (And.intro @g1 @g2)) (And.intro (And.intro @g3 @g4) (And.intro @gk5 @gk3)))) ?_; repeat' (first | (with_reducible exact True.intro) | (with_reducible refine Lf.mk ?_ ?_) | (with_reducible intro hb))
              refine Cal ((eTy_eta v)) (implLabs_ok v.labels hls) ?_
              by_cases hl : LabsOk v.labels
              · have gl := eq_true hl
                have hT : TNd v (false = true) deep := ⟨by omega, by omega, by omega, c4', fun h => by omega, fun _ => hl, fun h => absurd k3 h⟩
                refine Run ((And.intro (eTy_eta v) (And.intro @gk3 @gl))) ?_; repeat' (first | (with_reducible exact True.intro) | (with_reducible refine Lf.mk ?_ ?_) | (with_reducible intro hb))
                have hP : (false = true ∨ v.kind = 3 ∨ v.kind = 4) = (true = true) := by simp [k3]
                have hiff := TFb_iff v false _ deep hP
                refine Trn (α := Nat) [6, 9, 103, 104, 105, 106, 107, 108, 109, 110, 111, 112, 113, 114, 115, 116, 117] (fun i => [(103, iT i)]) (fun i => []) (fun i => i ≤ v.args.length ∧ ∀ a ∈ v.args.take i, TFb a true (deep + 1)) (fun i => v.args.length - i) (0) (⟨Nat.zero_le _, fun s hs => by simp at hs⟩) ((eTy_eta v)) ?_; intro lx hI; obtain i := lx; (try simp only [List.nil_append, List.cons_append] at hI ⊢)
                by_cases hlt : lx < v.args.length
                · refine Run ((And.intro (eTy_eta v) @hlt)) ?_; repeat' (first | (with_reducible exact True.intro) | (with_reducible refine Lf.mk ?_ ?_) | (with_reducible intro hb))
                  refine Cal ((eTy_eta v)) (H _ (List.getElem_mem hlt) _ true (deep + 1) ⟨by omega, by omega⟩) ?_
                  by_cases hf : TFb v.args[lx] true (deep + 1)
                  · have gf := eq_true hf
                    refine Run (@gf) ?_; repeat' (first | (with_reducible exact True.intro) | (with_reducible refine Lf.mk ?_ ?_) | (with_reducible intro hb))
                    exact Nxt ((eTy_eta v)) (lx + 1) (⟨by omega, ball_take hlt hI.2 hf⟩) (by first | omega | (simp; omega))
                  · have gf := eq_false hf
                    have e : decide (TFb v false deep) = false := decide_eq_false fun h => hf ((hiff.1 h).2 _ (List.getElem_mem hlt))
                    refine Run ((And.intro @gf @e)) ?_; repeat' (first | (with_reducible exact True.intro) | (with_reducible refine Lf.mk ?_ ?_) | (with_reducible intro hb))
                · have e : decide (TFb v false deep) = true := decide_eq_true (hiff.2 ⟨hT, ball_end (by omega) hI.2⟩)
                  refine Run ((And.intro @hlt @e)) ?_; repeat' (first | (with_reducible exact True.intro) | (with_reducible refine Lf.mk ?_ ?_) | (with_reducible intro hb))
              · have gl := eq_false hl
                have e := hno fun h => hl (h.2.2.2.2.2.1 k3)
                refine Run ((And.intro (And.intro (eTy_eta v) @gk5) (And.intro @gk3 (And.intro @gl @e)))) ?_; repeat' (first | (with_reducible exact True.intro) | (with_reducible refine Lf.mk ?_ ?_) | (with_reducible intro hb))
            · have gk3 := eq_false k3
              by_cases hl : 0 < (v.labels.length : Int)
              · have gl := eq_true hl
                have e := hno fun h => by have := h.2.2.2.2.2.2 k3; omega
                by_cases k5 : v.kind = 5
                · have gk5 := eq_true k5
                  refine Run ((And.intro (And.intro (And.intro (eTy_eta v) @g1) (And.intro @g2 @g3)) (And.intro (And.intro @g4 @gk5) (And.intro @gk3 (And.intro @gl @e))))) ?_; repeat' (first | (with_reducible exact True.intro) | (with_reducible refine Lf.mk ?_ ?_) | (with_reducible intro hb))
                · have gk5 := eq_false k5
                  refine Run ((And.intro (And.intro (And.intro (eTy_eta v) @g1) (And.intro @g2 @g3)) (And.intro (And.intro @g4 @gk5) (And.intro @gk3 (And.intro @gl @e))))) ?_; repeat' (first | (with_reducible exact True.intro) | (with_reducible refine Lf.mk ?_ ?_) | (with_reducible intro hb))
              · have gl := eq_false hl
                by_cases k5 : v.kind = 5
                · have gk5 := eq_true k5
                  have gk4 : (v.kind = 4) = False := eq_false (by omega)
                  have hT : TNd v (false = true) deep := ⟨by omega, by omega, by omega, c4', fun h => by simp at h, fun h => by omega, fun _ => by omega⟩
                  refine Run ((And.intro (And.intro (And.intro (eTy_eta v) @g1) (And.intro @g2 @g3)) (And.intro (And.intro @g4 @gk5) (And.intro @gk4 (And.intro @gk3 @gl))))) ?_; repeat' (first | (with_reducible exact True.intro) | (with_reducible refine Lf.mk ?_ ?_) | (with_reducible intro hb))
                  have hP : (false = true ∨ v.kind = 3 ∨ v.kind = 4) = (false = true) := by simp [k3, k5]
                  have hiff := TFb_iff v false _ deep hP
                  refine Trn (α := Nat) [6, 9, 103, 104, 105, 106, 107, 108, 109, 110, 111, 112, 113, 114, 115, 116, 117] (fun i => [(103, iT i)]) (fun i => []) (fun i => i ≤ v.args.length ∧ ∀ a ∈ v.args.take i, TFb a false (deep + 1)) (fun i => v.args.length - i) (0) (⟨Nat.zero_le _, fun s hs => by simp at hs⟩) ((eTy_eta v)) ?_; intro lx hI; obtain i := lx; (try simp only [List.nil_append, List.cons_append] at hI ⊢)
                  by_cases hlt : lx < v.args.length
                  · refine Run ((And.intro (eTy_eta v) @hlt)) ?_; repeat' (first | (with_reducible exact True.intro) | (with_reducible refine Lf.mk ?_ ?_) | (with_reducible intro hb))
                    refine Cal ((eTy_eta v)) (H _ (List.getElem_mem hlt) _ false (deep + 1) ⟨by omega, by omega⟩) ?_
                    by_cases hf : TFb v.args[lx] false (deep + 1)
                    · have gf := eq_true hf
                      refine Run (@gf) ?_; repeat' (first | (with_reducible exact True.intro) | (with_reducible refine Lf.mk ?_ ?_) | (with_reducible intro hb))
                      exact Nxt ((eTy_eta v)) (lx + 1) (⟨by omega, ball_take hlt hI.2 hf⟩) (by first | omega | (simp; omega))
                    · have gf := eq_false hf
                      have e : decide (TFb v false deep) = false := decide_eq_false fun h => hf ((hiff.1 h).2 _ (List.getElem_mem hlt))
                      refine Run ((And.intro @gf @e)) ?_; repeat' (first | (with_reducible exact True.intro) | (with_reducible refine Lf.mk ?_ ?_) | (with_reducible intro hb))
                  · have e : decide (TFb v false deep) = true := decide_eq_true (hiff.2 ⟨hT, ball_end (by omega) hI.2⟩)
                    refine Run ((And.intro @hlt @e)) ?_; repeat' (first | (with_reducible exact True.intro) | (with_reducible refine Lf.mk ?_ ?_) | (with_reducible intro hb))
                · have gk5 := eq_false k5
                  have hT : TNd v (false = true) deep := ⟨by omega, by omega, by omega, c4', fun h => k5 h.1, fun h => absurd h k3, fun _ => by omega⟩
                  by_cases k4 : v.kind = 4
                  · have gk4 := eq_true k4
                    refine Run ((And.intro (And.intro (And.intro (eTy_eta v) @g1) (And.intro @g2 @g3)) (And.intro (And.intro @g4 @gk5) (And.intro @gk4 (And.intro @gk3 @gl))))) ?_; repeat' (first | (with_reducible exact True.intro) | (with_reducible refine Lf.mk ?_ ?_) | (with_reducible intro hb))
                    have hP : (false = true ∨ v.kind = 3 ∨ v.kind = 4) = (true = true) := by simp [k4]
                    have hiff := TFb_iff v false _ deep hP
                    refine Trn (α := Nat) [6, 9, 103, 104, 105, 106, 107, 108, 109, 110, 111, 112, 113, 114, 115, 116, 117] (fun i => [(103, iT i)]) (fun i => []) (fun i => i ≤ v.args.length ∧ ∀ a ∈ v.args.take i, TFb a true (deep + 1)) (fun i => v.args.length - i) (0) (⟨Nat.zero_le _, fun s hs => by simp at hs⟩) ((eTy_eta v)) ?_; intro lx hI; obtain i := lx; (try simp only [List.nil_append, List.cons_append] at hI ⊢)
                    by_cases hlt : lx < v.args.length
                    · refine Run ((And.intro (eTy_eta v) @hlt)) ?_; repeat' (first | (with_reducible exact True.intro) | (with_reducible refine Lf.mk ?_ ?_) | (with_reducible intro hb))
                      refine Cal ((eTy_eta v)) (H _ (List.getElem_mem hlt) _ true (deep + 1) ⟨by omega, by omega⟩) ?_
                      by_cases hf : TFb v.args[lx] true (deep + 1)
                      · have gf := eq_true hf
                        refine Run (@gf) ?_; repeat' (first | (with_reducible exact True.intro) | (with_reducible refine Lf.mk ?_ ?_) | (with_reducible intro hb))
                        exact Nxt ((eTy_eta v)) (lx + 1) (⟨by omega, ball_take hlt hI.2 hf⟩) (by first | omega | (simp; omega))
                      · have gf := eq_false hf
                        have e : decide (TFb v false deep) = false := decide_eq_false fun h => hf ((hiff.1 h).2 _ (List.getElem_mem hlt))
                        refine Run ((And.intro @gf @e)) ?_; repeat' (first | (with_reducible exact True.intro) | (with_reducible refine Lf.mk ?_ ?_) | (with_reducible intro hb))
                    · have e : decide (TFb v false deep) = true := decide_eq_true (hiff.2 ⟨hT, ball_end (by omega) hI.2⟩)
                      refine Run ((And.intro @hlt @e)) ?_; repeat' (first | (with_reducible exact True.intro) | (with_reducible refine Lf.mk ?_ ?_) | (with_reducible intro hb))
                  · have gk4 := eq_false k4
                    refine Run ((And.intro (And.intro (And.intro (eTy_eta v) @g1) (And.intro @g2 @g3)) (And.intro (And.intro @g4 @gk5) (And.intro @gk4 (And.intro @gk3 @gl))))) ?_; repeat' (first | (with_reducible exact True.intro) | (with_reducible refine Lf.mk ?_ ?_) | (with_reducible intro hb))
                    have hP : (false = true ∨ v.kind = 3 ∨ v.kind = 4) = (false = true) := by simp [k3, k4]
                    have hiff := TFb_iff v false _ deep hP
                    refine Trn (α := Nat) [6, 9, 103, 104, 105, 106, 107, 108, 109, 110, 111, 112, 113, 114, 115, 116, 117] (fun i => [(103, iT i)]) (fun i => []) (fun i => i ≤ v.args.length ∧ ∀ a ∈ v.args.take i, TFb a false (deep + 1)) (fun i => v.args.length - i) (0) (⟨Nat.zero_le _, fun s hs => by simp at hs⟩) ((eTy_eta v)) ?_; intro lx hI; obtain i := lx; (try simp only [List.nil_append, List.cons_append] at hI ⊢)
                    by_cases hlt : lx < v.args.length
                    · refine Run ((And.intro (eTy_eta v) @hlt)) ?_; repeat' (first | (with_reducible exact True.intro) | (with_reducible refine Lf.mk ?_ ?_) | (with_reducible intro hb))
                      refine Cal ((eTy_eta v)) (H _ (List.getElem_mem hlt) _ false (deep + 1) ⟨by omega, by omega⟩) ?_
                      by_cases hf : TFb v.args[lx] false (deep + 1)
                      · have gf := eq_true hf
                        refine Run (@gf) ?_; repeat' (first | (with_reducible exact True.intro) | (with_reducible refine Lf.mk ?_ ?_) | (with_reducible intro hb))
                        exact Nxt ((eTy_eta v)) (lx + 1) (⟨by omega, ball_take hlt hI.2 hf⟩) (by first | omega | (simp; omega))
                      · have gf := eq_false hf
                        have e : decide (TFb v false deep) = false := decide_eq_false fun h => hf ((hiff.1 h).2 _ (List.getElem_mem hlt))
                        refine Run ((And.intro @gf @e)) ?_; repeat' (first | (with_reducible exact True.intro) | (with_reducible refine Lf.mk ?_ ?_) | (with_reducible intro hb))
                    · have e : decide (TFb v false deep) = true := decide_eq_true (hiff.2 ⟨hT, ball_end (by omega) hI.2⟩)
                      refine Run ((And.intro @hlt @e)) ?_; repeat' (first | (with_reducible exact True.intro) | (with_reducible refine Lf.mk ?_ ?_) | (with_reducible intro hb))
        · have g4 := eq_false c4
          have e := hno fun h => by have := h.2.2.2.1; omega
          refine Run ((And.intro (And.intro (eTy_eta v) (And.intro @g1 @g2)) (And.intro @g3 (And.intro @g4 @e)))) ?_; repeat' (first | (with_reducible exact True.intro) | (with_reducible refine Lf.mk ?_ ?_) | (with_reducible intro hb))

theorem typeForm_ok (v : Ty) (h : okTy (2^20) v) (rest : List IV) (b : Bool) (deep : Int) (hd : 0 ≤ deep ∧ deep ≤ 8) : FnP Try.prog 216 [.c (.im (.pt (eTy v ++ rest))), bT b, iT deep] (bT (decide (TFb v b deep))) :=
  typeForm_loop v h rest b deep hd fun u hu rest b d hd => typeForm_ok u ((okTy_iff.1 h).2.2.2 u hu) rest b d hd
termination_by SizeOf.sizeOf v
decreasing_by exact Ty.mem hu
def fc186A67 := (And.intro (And.intro (And.intro (And.intro sz3 ag3) (And.intro zv3 (And.intro un3 sz4))) (And.intro (And.intro ag4 (And.intro zv4 un4)) (And.intro sz77 (And.intro ag77 zv77)))) (And.intro (And.intro (And.intro fl77_0 (And.intro fl77_1 fl77_2)) (And.intro pl77 (And.intro sz159 ag159))) (And.intro (And.intro zv159 (And.intro un159 okf216)) (And.intro okf217 (And.intro sz63 sz75)))))
theorem implTyOk_ok (v : Ty) (h : okTy (2^20) v) (hz : zTy v ≤ 2^40) : FnS Try.prog 186 [] [agT (eTy v)] [] (bT (decide (TyOk v))) := by
  refine FnS.go [0, 1, 2] [] Try.func186 rfl (fun kt kz => ?_)
  have fcx := fc186A67
  simp only [Try.f186]
  have hf := typeForm_ok v h [] false 1 ⟨by omega, by omega⟩
  rw [List.append_nil] at hf
  have h1 := TFd_one v
  rw [show TFd v False 1 = TFb v false 1 by unfold TFb; simp] at h1
  refine Run ((eTy_eta v)) ?_; repeat' (first | (with_reducible exact True.intro) | (with_reducible refine Lf.mk ?_ ?_) | (with_reducible intro hb))
  refine Cal ((eTy_eta v)) (hf) ?_
  by_cases ht : TFb v false 1
  · have gt := eq_true ht
    have e : decide ((tsz v : Int) ≤ 24) = decide (TyOk v) := decide_eq_decide.2 ⟨fun h => ⟨by omega, (h1.1 ht).2, (h1.1 ht).1⟩, fun h => by have := h.1; omega⟩
    refine Run ((And.intro (eTy_eta v) @gt)) ?_; repeat' (first | (with_reducible exact True.intro) | (with_reducible refine Lf.mk ?_ ?_) | (with_reducible intro hb))
    refine Cal ((eTy_eta v)) (sizeTy_ok v h hz) ?_
    refine Run ((And.intro (eTy_eta v) @e)) ?_; repeat' (first | (with_reducible exact True.intro) | (with_reducible refine Lf.mk ?_ ?_) | (with_reducible intro hb))
  · have gt := eq_false ht
    have e : decide (TyOk v) = false := decide_eq_false fun h => ht (h1.2 ⟨h.2.2, h.2.1⟩)
    refine Run ((And.intro (eTy_eta v) (And.intro @gt @e))) ?_; repeat' (first | (with_reducible exact True.intro) | (with_reducible refine Lf.mk ?_ ?_) | (with_reducible intro hb))
def fc189A67 := (And.intro (And.intro (And.intro (And.intro sz3 ag3) (And.intro zv3 un3)) (And.intro (And.intro sz4 ag4) (And.intro zv4 un4))) (And.intro (And.intro (And.intro sz77 ag77) (And.intro zv77 fl77_0)) (And.intro (And.intro fl77_1 fl77_2) (And.intro pl77 (And.intro sz63 sz75)))))
theorem implPlain_ok (v : Ty) : FnS Try.prog 189 [] [agT (eTy v)] [] (bT (decide (plainK v))) := by
  refine FnS.go [0, 1, 2] [] Try.func189 rfl (fun kt kz => ?_)
  have fcx := fc189A67
  simp only [Try.f189]
  by_cases k1 : v.kind = 1
  · have e : decide (plainK v) = true := decide_eq_true (.inl k1)
    refine Run ((And.intro @eTy_eta (And.intro @k1 @e))) ?_; repeat' (first | (with_reducible exact True.intro) | (with_reducible refine Lf.mk ?_ ?_) | (with_reducible intro hb))
  · have e : decide (v.kind = 2) = decide (plainK v) := decide_eq_decide.2 ⟨fun h => .inr h, fun h => h.resolve_left k1⟩
    have g1 := eq_false k1
    refine Run ((And.intro @eTy_eta (And.intro @g1 @e))) ?_; repeat' (first | (with_reducible exact True.intro) | (with_reducible refine Lf.mk ?_ ?_) | (with_reducible intro hb))
def fc188A67 := (And.intro (And.intro (And.intro sz4 (And.intro ag4 zv4)) (And.intro (And.intro un4 sz77) (And.intro ag77 zv77))) (And.intro (And.intro (And.intro fl77_0 fl77_1) (And.intro fl77_2 pl77)) (And.intro (And.intro okf189 sz3) (And.intro sz63 sz75))))
theorem implRow1_ok (v : Ty) : FnS Try.prog 188 [] [agT (eTy v)] [] (bT (!decide (plainK v))) := by
  refine FnS.go [0, 1, 2] [] Try.func188 rfl (fun kt kz => ?_)
  have fcx := fc188A67
  simp only [Try.f188]
  refine Run (@eTy_eta) ?_; repeat' (first | (with_reducible exact True.intro) | (with_reducible refine Lf.mk ?_ ?_) | (with_reducible intro hb))
  refine Cal (@eTy_eta) (implPlain_ok v) ?_
  refine Run (@eTy_eta) ?_; repeat' (first | (with_reducible exact True.intro) | (with_reducible refine Lf.mk ?_ ?_) | (with_reducible intro hb))
def fc218A67 := (And.intro (And.intro (And.intro (And.intro sz3 (And.intro ag3 zv3)) (And.intro un3 (And.intro sz4 ag4))) (And.intro (And.intro zv4 (And.intro un4 sz75)) (And.intro (And.intro ag75 zv75) (And.intro sb75 un75)))) (And.intro (And.intro (And.intro el75 (And.intro ap75 sz77)) (And.intro ag77 (And.intro zv77 fl77_0))) (And.intro (And.intro fl77_1 (And.intro fl77_2 pl77)) (And.intro (And.intro sz201 ag201) (And.intro zv201 sz63)))))
theorem slIdxTy_ok (g : Nat) (hg : fnOk Try.prog g = true) (p : Ty → Bool) (xs : List Ty) (hx : xs.length ≤ 2^48) (H : ∀ x ∈ xs, FnP Try.prog g [agT (eTy x)] (bT (p x))) : FnS Try.prog 218 [] [slT eTy xs, .c (.im (.fn g []))] [] (iT (idxI p xs)) := by
  refine FnS.go [0, 1, 4, 5, 7, 8, 9, 16] [] Try.func218 rfl (fun kt kz => ?_)
  have fcx := fc218A67
  simp only [Try.f218]
  refine Run (cast_succ) ?_; repeat' (first | (with_reducible exact True.intro) | (with_reducible refine Lf.mk ?_ ?_) | (with_reducible intro hb))
  refine Trn (α := Nat) [4, 5, 8, 9, 10, 11, 12, 13, 14, 15, 16, 17, 18] (fun i => [(8, iT i)]) (fun i => []) (fun i => i ≤ xs.length ∧ (xs.take i).any p = false) (fun i => xs.length - i) (0) (⟨Nat.zero_le _, rfl⟩) (cast_succ) ?_; intro lx hI; obtain i := lx; (try simp only [List.nil_append, List.cons_append] at hI ⊢)
  by_cases hlt : lx < xs.length
  · refine Run ((And.intro @hlt (And.intro @eTy_eta @hg))) ?_; repeat' (first | (with_reducible exact True.intro) | (with_reducible refine Lf.mk ?_ ?_) | (with_reducible intro hb))
    refine Cal (@eTy_eta) (H _ (List.getElem_mem hlt)) ?_
    refine Run (cast_succ) ?_; repeat' (first | (with_reducible exact True.intro) | (with_reducible refine Lf.mk ?_ ?_) | (with_reducible intro hb))
    · rw [idx_at hlt hI.2 hb]
    · exact Nxt (cast_succ) (lx + 1) (⟨by omega, any_take hlt hI.2 hb⟩) (by first | omega | (simp; omega))
  · have ha := any_all (by omega) hI.2
    refine Run (@hlt) ?_; repeat' (first | (with_reducible exact True.intro) | (with_reducible refine Lf.mk ?_ ?_) | (with_reducible intro hb))
    rw [idx_no ha]
def fc187A67 := (And.intro (And.intro (And.intro (And.intro sz3 ag3) (And.intro zv3 un3)) (And.intro (And.intro sz4 ag4) (And.intro zv4 (And.intro un4 sz75)))) (And.intro (And.intro (And.intro ag75 zv75) (And.intro sb75 (And.intro un75 el75))) (And.intro (And.intro ap75 sz201) (And.intro ag201 (And.intro zv201 okf218)))))
theorem slHasTy_ok (g : Nat) (hg : fnOk Try.prog g = true) (p : Ty → Bool) (xs : List Ty) (hx : xs.length ≤ 2^48) (H : ∀ x ∈ xs, FnP Try.prog g [agT (eTy x)] (bT (p x))) : FnS Try.prog 187 [] [slT eTy xs, .c (.im (.fn g []))] [] (bT (xs.any p)) := by
  refine FnS.go [0, 1, 4] [] Try.func187 rfl (fun kt kz => ?_)
  have fcx := fc187A67
  simp only [Try.f187]
  refine Run (cast_succ) ?_; repeat' (first | (with_reducible exact True.intro) | (with_reducible refine Lf.mk ?_ ?_) | (with_reducible intro hb))
  refine Cal (cast_succ) (slIdxTy_ok g hg p xs hx H) ?_
  refine Run ((idx_ge (p := p) (l := xs))) ?_; repeat' (first | (with_reducible exact True.intro) | (with_reducible refine Lf.mk ?_ ?_) | (with_reducible intro hb))
def fc155A67 := (And.intro (And.intro (And.intro (And.intro sz3 (And.intro ag3 zv3)) (And.intro (And.intro un3 sz4) (And.intro ag4 zv4))) (And.intro (And.intro un4 (And.intro sz75 ag75)) (And.intro (And.intro zv75 sb75) (And.intro un75 el75)))) (And.intro (And.intro (And.intro ap75 (And.intro sz77 ag77)) (And.intro (And.intro zv77 fl77_0) (And.intro fl77_1 fl77_2))) (And.intro (And.intro (And.intro pl77 sz201) (And.intro ag201 zv201)) (And.intro (And.intro okf186 okf187) (And.intro okf188 sz63)))))
theorem implRow_ok (v : Ty) (h : okTy (2^20) v) (hz : zTy v ≤ 2^40) : FnS Try.prog 155 [] [agT (eTy v)] [] (bT (decide (RowOk' v))) := by
  refine FnS.go [0, 1, 2] [] Try.func155 rfl (fun kt kz => ?_)
  have fcx := fc155A67
  simp only [Try.f155]
  have ho := okTy_iff.1 h
  have hln := ho.2.2.1
  have hg : fnOk Try.prog 188 = true := by decide +kernel
  refine Run (@eTy_eta) ?_; repeat' (first | (with_reducible exact True.intro) | (with_reducible refine Lf.mk ?_ ?_) | (with_reducible intro hb))
  refine Cal (@eTy_eta) (implTyOk_ok v h hz) ?_
  by_cases ht : TyOk v
  · have gt := eq_true ht
    by_cases k3 : v.kind = 3
    · have g3 := eq_true k3
      have e : (!v.args.any fun x => !decide (plainK x)) = decide (RowOk' v) := by
        rw [Bool.eq_iff_iff]
        simp only [Bool.not_eq_true', List.any_eq_false, Bool.not_eq_true', decide_eq_false_iff_not, Classical.not_not, decide_eq_true_eq, Bool.not_eq_false', RowOk', ht, k3, true_and]
      refine Run ((And.intro (And.intro @eTy_eta @gt) (And.intro @g3 @hg))) ?_; repeat' (first | (with_reducible exact True.intro) | (with_reducible refine Lf.mk ?_ ?_) | (with_reducible intro hb))
      refine Cal (@eTy_eta) (slHasTy_ok 188 hg (fun x => !decide (plainK x)) v.args (by omega) (fun x _ => implRow1_ok x)) ?_
      refine Run ((And.intro @eTy_eta @e)) ?_; repeat' (first | (with_reducible exact True.intro) | (with_reducible refine Lf.mk ?_ ?_) | (with_reducible intro hb))
    · have g3 := eq_false k3
      have e : decide (RowOk' v) = false := decide_eq_false fun h => k3 h.2.1
      refine Run ((And.intro (And.intro @eTy_eta @gt) (And.intro @g3 @e))) ?_; repeat' (first | (with_reducible exact True.intro) | (with_reducible refine Lf.mk ?_ ?_) | (with_reducible intro hb))
  · have gt := eq_false ht
    have e : decide (RowOk' v) = false := decide_eq_false fun h => ht h.1
    refine Run ((And.intro @eTy_eta (And.intro @gt @e))) ?_; repeat' (first | (with_reducible exact True.intro) | (with_reducible refine Lf.mk ?_ ?_) | (with_reducible intro hb))

end Go.VC.T
/- Numbers as texts: no program in sight. -/
set_option linter.unusedSimpArgs false
set_option linter.unusedVariables false
namespace Go.VC
open Go
def fmtB (n : Int) : ByteArray := if n = 0 then ⟨#[48]⟩ else if n < 0 then ⟨#[45]⟩ ++ dgt n.natAbs ⟨#[]⟩ else dgt n.toNat ⟨#[]⟩
theorem byStr_dig (k : Nat) : byStr [((48 + k % 10 : Nat) : Int)] = ⟨#[UInt8.ofNat (48 + k % 10)]⟩ := rfl
theorem app_nil (a : ByteArray) : (a ++ ⟨#[]⟩ : ByteArray) = a := by
  apply ByteArray.ext; simp
theorem dgt_dec : ∀ (k : Nat) (out : ByteArray), 0 < k → dgt k out = ⟨(Lib.decDigits k).toArray⟩ ++ out := by
  intro k
  induction k using Nat.strongRecOn with
  | _ k ih =>
    intro out hk
    rw [dgt_pos hk, byStr_dig]
    by_cases h : k < 10
    · have h0 : k / 10 = 0 := by omega
      have h1 : k % 10 = k := by omega
      rw [h0, dgt_zero, h1, Lib.decDigits, dif_pos h]
    · rw [ih (k / 10) (by omega) _ (by omega)]
      conv => rhs; rw [Lib.decDigits, dif_neg h]
      apply ByteArray.ext
      simp
theorem fmtB_itoa (n : Int) : fmtB n = ⟨(Lib.itoa n).toArray⟩ := by
  unfold fmtB Lib.itoa
  by_cases h0 : n = 0
  · subst h0
    rw [if_pos rfl, if_neg (by omega)]
    show _ = ByteArray.mk (Lib.decDigits 0).toArray
    rw [Lib.decDigits, dif_pos (by omega)]
    rfl
  · rw [if_neg h0]
    by_cases h1 : n < 0
    · rw [if_pos h1, if_pos h1, dgt_dec _ _ (by omega), app_nil]
      apply ByteArray.ext
      simp
    · rw [if_neg h1, if_neg h1, dgt_dec _ _ (by omega), app_nil]
theorem dgt_size : ∀ (d k : Nat) (out : ByteArray), k < 10 ^ d → (dgt k out).size ≤ out.size + d
  | 0, k, out, h => by
    obtain rfl : k = 0 := by simpa using h
    rw [dgt_zero]; omega
  | d + 1, k, out, h => by
    by_cases hk : k = 0
    · subst hk; rw [dgt_zero]; omega
    · rw [dgt_pos (by omega)]
      have := dgt_size d (k / 10) (byStr [((48 + k % 10 : Nat) : Int)] ++ out) (by rw [Nat.pow_succ] at h; omega)
      rw [ByteArray.size_append, byStr_size] at this
      simp only [List.length_cons, List.length_nil] at this
      omega
theorem fmtB_size {n : Int} (h : -9223372036854775808 ≤ n ∧ n ≤ 9223372036854775807) : (fmtB n).size ≤ 21 := by
  unfold fmtB
  split
  · decide
  · split
    · rw [ByteArray.size_append]
      have := dgt_size 20 n.natAbs ⟨#[]⟩ (by rw [show (10:Nat)^20 = 100000000000000000000 from rfl]; omega)
      have e : (ByteArray.mk #[45]).size = 1 := rfl
      have e2 : (ByteArray.mk #[]).size = 0 := rfl
      omega
    · have := dgt_size 20 n.toNat ⟨#[]⟩ (by rw [show (10:Nat)^20 = 100000000000000000000 from rfl]; omega)
      have e2 : (ByteArray.mk #[]).size = 0 := rfl
      omega
end Go.VC
/- Texts joined: no program in sight. -/
set_option linter.unusedSimpArgs false
set_option linter.unusedVariables false
namespace Go.VC
open Go
def joinB (xs : List ByteArray) (sep : ByteArray) : ByteArray := ⟨(Lib.join (xs.map (·.data.toList)) sep.data.toList).toArray⟩
theorem joinB_nil (sep : ByteArray) : joinB [] sep = ⟨#[]⟩ := rfl
theorem join_snoc (s : List UInt8) (l : List UInt8) : ∀ ls : List (List UInt8), Lib.join (ls ++ [l]) s = if ls = [] then l else Lib.join ls s ++ s ++ l
  | [] => by rw [if_pos rfl]; exact Lib.join_one l s
  | x :: r => by
    rw [if_neg (by simp), List.cons_append, Lib.join_cons, Lib.join_cons]
    simp [Lib.joinTail]
theorem joinB_snoc (xs : List ByteArray) (y sep : ByteArray) : joinB (xs ++ [y]) sep = if xs = [] then y else joinB xs sep ++ sep ++ y := by
  unfold joinB
  rw [List.map_append, List.map_cons, List.map_nil, join_snoc]
  by_cases h : xs = []
  · subst h; rfl
  · rw [if_neg (by simpa using h), if_neg h]
    apply ByteArray.ext
    simp
theorem joinB_one (y sep : ByteArray) : joinB [y] sep = y := by have := joinB_snoc [] y sep; rw [if_pos rfl] at this; exact this
theorem joinB_zero {xs : List ByteArray} {sep : ByteArray} : joinB (xs.take 0) sep = ⟨#[]⟩ := rfl
theorem joinB_take0 {xs : List ByteArray} {sep : ByteArray} (h : 0 < xs.length) : joinB (xs.take 1) sep = xs[0] := by
  rw [show 1 = 0 + 1 from rfl, take_at h, List.take_zero, List.nil_append]; exact joinB_one _ _
theorem joinB_take {xs : List ByteArray} {sep : ByteArray} {i : Nat} (h : i < xs.length) (h0 : ¬ i = 0) : joinB (xs.take (i + 1)) sep = joinB (xs.take i) sep ++ sep ++ xs[i] := by
  rw [take_at h, joinB_snoc, if_neg]
  intro e
  have := congrArg List.length e
  rw [List.length_take, List.length_nil] at this
  omega
/-- The bytes in all. -/
def jz (sep : ByteArray) (xs : List ByteArray) : Nat := (xs.map fun x => x.size + sep.size).sum
theorem joinB_size {sep : ByteArray} {xs : List ByteArray} : ∀ i, (joinB (xs.take i) sep).size ≤ jz sep (xs.take i)
  | 0 => Nat.zero_le _
  | i + 1 => by
    by_cases h : i < xs.length
    · have ih := joinB_size (sep := sep) (xs := xs) i
      have e : jz sep (xs.take (i + 1)) = jz sep (xs.take i) + (xs[i].size + sep.size) := by unfold jz; rw [take_at h, List.map_append, List.sum_append]; rfl
      by_cases h0 : i = 0
      · subst h0
        have e1 := joinB_take0 (sep := sep) (by omega : 0 < xs.length)
        rw [e, show (0 : Nat) + 1 = 1 from rfl, e1]; omega
      · rw [e, joinB_take h h0, ByteArray.size_append, ByteArray.size_append]; omega
    · have ih := joinB_size (sep := sep) (xs := xs) i
      rw [List.take_of_length_le (by omega)] at ih ⊢
      exact ih
theorem jz_take {sep : ByteArray} {xs : List ByteArray} (i : Nat) : jz sep (xs.take i) ≤ jz sep xs := by
  unfold jz
  have : xs = xs.take i ++ xs.drop i := (List.take_append_drop i xs).symm
  conv => rhs; rw [this]
  rw [List.map_append, List.sum_append]
  omega
theorem jz_le {sep : ByteArray} {b : Nat} : ∀ {xs : List ByteArray}, (∀ x ∈ xs, x.size ≤ b) → jz sep xs ≤ xs.length * (b + sep.size)
  | [], _ => Nat.zero_le _
  | x :: r, h => by
    have ih := jz_le (sep := sep) (xs := r) fun y hy => h y (by simp [hy])
    have hx := h x (by simp)
    have e : jz sep (x :: r) = x.size + sep.size + jz sep r := by unfold jz; simp
    rw [e, List.length_cons, Nat.add_mul]
    omega
theorem joinB_le {sep : ByteArray} {xs : List ByteArray} {b : Nat} (h : ∀ x ∈ xs, x.size ≤ b) : (joinB xs sep).size ≤ xs.length * (b + sep.size) := by
  have h1 := joinB_size (sep := sep) (xs := xs) xs.length
  rw [List.take_length] at h1
  exact Nat.le_trans h1 (jz_le h)
theorem byI_append (a b : ByteArray) : byI (a ++ b) = byI a ++ byI b := by unfold byI; simp
theorem byI_byL (b : ByteArray) : byL (byI b) = some (b.data.toList.map fun x => (x.toNat : Int)) := by
  unfold byI
  generalize b.data.toList = l
  induction l with
  | nil => rfl
  | cons x r ih => simp only [List.map_cons, byL, ih]; rfl
theorem byStr_byI (b : ByteArray) : byStr (b.data.toList.map fun x => (x.toNat : Int)) = b := by
  have : ∀ (l : List UInt8) (r : ByteArray), (l.map fun x => (x.toNat : Int)).foldl (fun r n => r.push (UInt8.ofNat n.toNat)) r = r ++ ⟨l.toArray⟩ := by
    intro l
    induction l with
    | nil => intro r; apply ByteArray.ext; simp
    | cons x l ih =>
      intro r
      rw [List.map_cons, List.foldl_cons, ih]
      apply ByteArray.ext
      simp
  unfold byStr
  rw [this]
  apply ByteArray.ext
  simp
end Go.VC
/- strings.Join at seat r3 (printed by the kit's tools, mkjoin.sh; to be printed anew at another seat). -/
namespace Go.Proofs
open Go.Shelf
def Try.lays156_ren : Go.Shelf.Ren := ⟨fun | 156 => 227 | 165 => 235 | 166 => 236 | 169 => 237 | 240 => 242 | 241 => 243 | 276 => 245 | 277 => 246 | n => n, fun | 31 => 63 | 9 => 9 | 3 => 3 | 4 => 4 | 0 => 0 | 20 => 20 | 72 => 271 | 76 => 275 | 70 => 269 | 37 => 219 | 75 => 274 | 127 => 278 | 164 => 280 | 5 => 5 | 80 => 250 | n => n, fun | n => n⟩
theorem Try.lays156 : Go.Proofs.Lays.n156 Try.prog Try.lays156_ren := {
  mixed := by kernel_rfl
  f156 := Try.func227.trans (congrArg some (by kernel_rfl))
  f165 := Try.func235.trans (congrArg some (by kernel_rfl))
  f166 := Try.func236.trans (congrArg some (by kernel_rfl))
  f169 := Try.func237.trans (congrArg some (by kernel_rfl))
  f240 := Try.func242.trans (congrArg some (by kernel_rfl))
  f241 := Try.func243.trans (congrArg some (by kernel_rfl))
  f276 := Try.func245.trans (congrArg some (by kernel_rfl))
  f277 := Try.func246.trans (congrArg some (by kernel_rfl))
  t0 := Try.underlying0
  a0 := Try.isAgg0
  z0 := Try.sizeOf0
  v0 := Try.zeroValue0
  t3 := Try.underlying3
  a3 := Try.isAgg3
  z3 := Try.sizeOf3
  v3 := Try.zeroValue3
  t4 := Try.underlying4
  a4 := Try.isAgg4
  z4 := Try.sizeOf4
  v4 := Try.zeroValue4
  t9 := Try.underlying9
  a9 := Try.isAgg9
  z9 := Try.sizeOf9
  v9 := Try.zeroValue9
  t20 := Try.underlying20
  a20 := Try.isAgg20
  z20 := Try.sizeOf20
  v20 := Try.zeroValue20
  t31 := Try.underlying63
  a31 := Try.isAgg63
  z31 := Try.sizeOf63
  v31 := Try.zeroValue63
  t37 := Try.underlying219
  a37 := Try.isAgg219
  z37 := Try.sizeOf219
  v37 := Try.zeroValue219
  t70 := Try.underlying269
  a70 := Try.isAgg269
  z70 := Try.sizeOf269
  v70 := Try.zeroValue269
  t72 := Try.underlying271
  a72 := Try.isAgg271
  z72 := Try.sizeOf271
  v72 := Try.zeroValue271
  t75 := Try.underlying274
  a75 := Try.isAgg274
  z75 := Try.sizeOf274
  v75 := Try.zeroValue274
  t76 := Try.underlying275
  a76 := Try.isAgg275
  z76 := Try.sizeOf275
  v76 := Try.zeroValue275
  t127 := Try.underlying278
  a127 := Try.isAgg278
  z127 := Try.sizeOf278
  v127 := Try.zeroValue278
  t164 := Try.underlying280
  a164 := Try.isAgg280
  z164 := Try.sizeOf280
  v164 := Try.zeroValue280 }
theorem Try.Builder_Extra_156 : Builder.Extra Try.prog Try.lays156_ren := {
  sizeBuilder := by kernel_rfl
  liesBuilder := by kernel_rfl
  t5 := Try.underlying5
  a5 := Try.isAgg5
  z5 := Try.sizeOf5
  v5 := Try.zeroValue5
  infoByte := by kernel_rfl
  cellsByte := by kernel_rfl
  sizeByte := by kernel_rfl
  neB5 := by decide }
open Go.RowKit in
/-- No element: the empty string; the world is as it was. (Whatever the slice's address and capacity: a nil slice too.) (LAID: no walk: one application.) -/
theorem Try.strings_Join_none (a : Option Addr) (c : Nat) (sep : ByteArray) (w : World) :
    Calls Try.prog 227 #[.slice a 0 c, .string sep] w fun e w' => e = .returned (.string ⟨#[]⟩) ∧ w' = w := Any.strings_Join_none Try.lays156 Try.Builder_Extra_156 a c sep w
open Go.RowKit in
/-- strings.Join: "Join concatenates the elements of its first argument to create a single string. The separator string sep is placed between elements in the resulting string.": HOWEVER MANY ELEMENTS. Below the heap's end the world is as it was. (LAID: no walk: one application.) -/
theorem Try.strings_Join (bk o c : Nat) (xs : List ByteArray) (sep : ByteArray) (w : World) (hcells : ∀ (j : Nat) x, xs[j]? = some x → w.cell? ⟨bk, o + j, none⟩ = some (.string x)) (hbk : bk < w.heap.size) (hN : xs.length ≤ 140737488355328) (hcap : xs.length ≤ c) (hlen : (Lib.join (xs.map (·.data.toList)) sep.data.toList).length ≤ 140737488355328) :
    Calls Try.prog 227 #[.slice (some ⟨bk, o, none⟩) xs.length c, .string sep] w fun e w' => e = .returned (.string ⟨(Lib.join (xs.map (·.data.toList)) sep.data.toList).toArray⟩) ∧ Below w.heap.size w w' := Any.strings_Join Try.lays156 Try.Builder_Extra_156 bk o c xs sep w hcells hbk hN hcap hlen
end Go.Proofs
/- Types as texts, read back: the program. -/
namespace Go.VC
open Go
mutual
/-- The text of a type. -/
noncomputable def tyB : Ty → ByteArray
  | .mk k ls ws => if k = 1 then ⟨#[73]⟩ else if k = 2 then ⟨#[66]⟩ else if k = 4 then ⟨#[91]⟩ ++ (tyBL ws).getD 0 ⟨#[]⟩ ++ ⟨#[93]⟩ else if k = 5 then ⟨#[40]⟩ ++ (tyBL ws).getD 0 ⟨#[]⟩ ++ ⟨#[62]⟩ ++ (tyBL ws).getD 1 ⟨#[]⟩ ++ ⟨#[41]⟩
    else ⟨#[123]⟩ ++ joinB (ls.zipWith (fun l t => l ++ ⟨#[58]⟩ ++ t) (tyBL ws)) ⟨#[44]⟩ ++ ⟨#[125]⟩
noncomputable def tyBL : List Ty → List ByteArray
  | [] => []
  | a :: r => tyB a :: tyBL r
end
theorem tyBL_map : ∀ l : List Ty, tyBL l = l.map tyB
  | [] => rfl
  | a :: r => by rw [tyBL, tyBL_map r]; rfl
def tyParts (t : Ty) : List ByteArray → List ByteArray := fun l => t.labels.zipWith (fun l t => l ++ ⟨#[58]⟩ ++ t) l
theorem tyB_eta (t : Ty) : tyB t = if t.kind = 1 then ⟨#[73]⟩ else if t.kind = 2 then ⟨#[66]⟩ else if t.kind = 4 then ⟨#[91]⟩ ++ (t.args.map tyB).getD 0 ⟨#[]⟩ ++ ⟨#[93]⟩ else if t.kind = 5 then ⟨#[40]⟩ ++ (t.args.map tyB).getD 0 ⟨#[]⟩ ++ ⟨#[62]⟩ ++ (t.args.map tyB).getD 1 ⟨#[]⟩ ++ ⟨#[41]⟩
    else ⟨#[123]⟩ ++ joinB (tyParts t (t.args.map tyB)) ⟨#[44]⟩ ++ ⟨#[125]⟩ := by
  cases t with
  | mk k ls ws => rw [tyB, tyBL_map]; rfl
end Go.VC
namespace Go.VC
open Go
theorem tyParts_len {t : Ty} (h : t.labels.length = t.args.length) : (tyParts t (t.args.map tyB)).length = t.args.length := by unfold tyParts; simp [h]
theorem tyParts_at {t : Ty} {i : Nat} (h : t.labels.length = t.args.length) (hi : i < t.args.length) : (tyParts t (t.args.map tyB))[i]'(by rw [tyParts_len h]; exact hi) = t.labels[i] ++ ⟨#[58]⟩ ++ tyB t.args[i] := by unfold tyParts; simp
theorem THd_rec {t : Ty} (h : THd t) (h1 : ¬ t.kind = 1) (h2 : ¬ t.kind = 2) (h4 : ¬ t.kind = 4) (h5 : ¬ t.kind = 5) : t.args.length = t.labels.length ∧ LabsOk t.labels := by
  unfold THd at h
  rcases h with h | h | h | h
  · exact ⟨h.2.1, h.2.2.1⟩
  all_goals omega
theorem jz_bound {sep : ByteArray} {f : Ty → Nat} : ∀ {xs : List ByteArray} {l : List Ty}, xs.length = l.length → (∀ i, (h : i < xs.length) → (h' : i < l.length) → xs[i].size + sep.size ≤ f l[i]) → jz sep xs ≤ (l.map f).sum
  | [], [], _, _ => by simp [jz]
  | x :: r, a :: l, hl, h => by
    have h1 := h 0 (by simp) (by simp)
    have h2 := jz_bound (xs := r) (l := l) (by simpa using hl) fun i h3 h4 => h (i + 1) (by simpa using h3) (by simpa using h4)
    unfold jz at h2 ⊢
    simp only [List.map_cons, List.sum_cons, List.getElem_cons_zero] at *
    omega
  | [], _ :: _, hl, _ => by simp at hl
  | _ :: _, [], hl, _ => by simp at hl
theorem joinB_jz' (sep : ByteArray) (xs : List ByteArray) : (joinB xs sep).size ≤ jz sep xs := by
  have := joinB_size (sep := sep) (xs := xs) xs.length
  rwa [List.take_length] at this
theorem tyB_small (t : Ty) (hf : TF t) : (tyB t).size + 6 ≤ 8 * tsz t := by
  have h := (TF_eta t).1 hf
  have hz := tsz_eta t
  have z : ∀ c : UInt8, (ByteArray.mk #[c]).size = 1 := fun _ => rfl
  have harg : ∀ a ∈ t.args, (tyB a).size + 6 ≤ 8 * tsz a := fun a ha => tyB_small a (h.2 a ha)
  rw [tyB_eta]
  by_cases k1 : t.kind = 1
  · rw [if_pos k1, z]; omega
  rw [if_neg k1]
  by_cases k2 : t.kind = 2
  · rw [if_pos k2, z]; omega
  rw [if_neg k2]
  by_cases k4 : t.kind = 4
  · have ha : t.args.length = 1 := by have := h.1; unfold THd at this; omega
    obtain ⟨a, he⟩ := List.length_eq_one_iff.1 ha
    have h1 := harg a (by rw [he]; simp)
    have e1 : tszT t.args t.args.length = tsz a := by rw [he]; simp [tszT]
    rw [if_pos k4, he]
    simp only [List.map_cons, List.map_nil, List.getD_cons_zero, ByteArray.size_append, z]
    omega
  rw [if_neg k4]
  by_cases k5 : t.kind = 5
  · have ha : t.args.length = 2 := by have := h.1; unfold THd at this; omega
    obtain ⟨a, c, he⟩ : ∃ a c, t.args = [a, c] := by
      match t.args, ha with
      | [a, c], _ => exact ⟨a, c, rfl⟩
    have h1 := harg a (by rw [he]; simp)
    have h2 := harg c (by rw [he]; simp)
    have e1 : tszT t.args t.args.length = tsz a + tsz c := by rw [he]; simp [tszT]
    rw [if_pos k5, he]
    simp only [List.map_cons, List.map_nil, List.getD_cons_zero, List.getD_cons_succ, ByteArray.size_append, z]
    omega
  rw [if_neg k5]
  obtain ⟨hl, hL⟩ := THd_rec h.1 k1 k2 k4 k5
  have hj := joinB_jz' ⟨#[44]⟩ (tyParts t (t.args.map tyB))
  have hb : jz ⟨#[44]⟩ (tyParts t (t.args.map tyB)) ≤ (t.args.map fun a => 8 * tsz a).sum := jz_bound (by rw [tyParts_len hl.symm]) fun i h1 h2 => by
    rw [tyParts_at hl.symm h2]
    have h3 := harg _ (List.getElem_mem h2)
    have h4 := (hL.1 _ (List.getElem_mem (show i < t.labels.length by omega))).2.1.2
    simp only [ByteArray.size_append, z]
    omega
  have hs : (t.args.map fun a => 8 * tsz a).sum = 8 * tszT t.args t.args.length := by
    unfold tszT
    rw [List.take_length]
    induction t.args with
    | nil => rfl
    | cons a r ih => simp only [List.map_cons, List.sum_cons, ih]; omega
  simp only [ByteArray.size_append, z]
  omega
termination_by SizeOf.sizeOf t
decreasing_by exact Ty.mem ha
end Go.VC
namespace Go.VC.T
open Go Go.VC Go.Proofs Go.VC.F
set_option linter.unusedSimpArgs false
set_option linter.unusedVariables false
set_option linter.defProp false
set_option maxRecDepth 100000
set_option maxHeartbeats 2000000
/-- strings.Join. -/
theorem sjoin3_q (xs : List ByteArray) (sep : ByteArray) (hN : xs.length ≤ 2^40) (hs : (joinB xs sep).size ≤ 2^46) (q : Nat) : FnS Try.prog 227 [(q, .vec 9 1 xs.length (xs.flatMap eS) true)] [.c (.os q xs.length), sT sep] [(q, .vec 9 1 xs.length (xs.flatMap eS) true)] (sT (joinB xs sep)) := by
  have H : FnS Try.prog 227 [(1, .vec 9 1 xs.length (xs.flatMap eS) true)] [.c (.os 1 xs.length), sT sep] [(1, .vec 9 1 xs.length (xs.flatMap eS) true)] (sT (joinB xs sep)) := by
    refine FnS.join (fun he a c w => ?_) fun bk o c w h1 h2 h3 => ?_
    · subst he; exact Try.strings_Join_none a c sep w
    · exact Try.strings_Join bk o c xs sep w h1 h2 (by omega) h3 (by
        have : (joinB xs sep).size = (Lib.join (xs.map (·.data.toList)) sep.data.toList).length := by unfold joinB; rw [ByteArray.size]; simp
        omega)
  obtain ⟨p, hp⟩ := pm1 1 q
  refine (H.renA p).asA ?_ ?_ ?_ ?_ <;> simp [renS, Ob.ren, TV.ren, Cell.ren, hp]
def fc210A74 := (And.intro (And.intro (And.intro (And.intro (And.intro sz3 ag3) (And.intro zv3 un3)) (And.intro (And.intro sz4 ag4) (And.intro zv4 (And.intro un4 sz9)))) (And.intro (And.intro (And.intro ag9 zv9) (And.intro un9 (And.intro sz63 ag63))) (And.intro (And.intro zv63 sb63) (And.intro un63 (And.intro el63 ap63))))) (And.intro (And.intro (And.intro (And.intro sz75 ag75) (And.intro zv75 (And.intro sb75 un75))) (And.intro (And.intro el75 ap75) (And.intro sz77 (And.intro ag77 zv77)))) (And.intro (And.intro (And.intro fl77_0 fl77_1) (And.intro fl77_2 (And.intro pl77 sz159))) (And.intro (And.intro ag159 zv159) (And.intro un159 (And.intro okf210 okf227))))))
theorem typeText_of (t : Ty) (h : okTy (2^20) t) (hf : TF t) (hz : tsz t ≤ 2^30) (rest : List IV) (H : ∀ a ∈ t.args, ∀ rest : List IV, FnP Try.prog 210 [.c (.im (.pt (eTy a ++ rest)))] (sT (tyB a))) : FnS Try.prog 210 [] [.c (.im (.pt (eTy t ++ rest)))] [] (sT (tyB t)) := by
  refine FnS.go [0, 2, 3, 4, 5, 9, 10, 12, 14, 24, 46, 47, 48, 49] [] Try.func210 rfl (fun kt kz => ?_)
  have fcx := fc210A74
  simp only [Try.f210]
  have ho := okTy_iff.1 h
  have hln := ho.2.2.1
  have hls := ho.2.1
  have hh := (TF_eta t).1 hf
  have hsz := tyB_small t hf
  have hasz : ∀ a ∈ t.args, (tyB a).size ≤ 2^34 := fun a ha => by
    have h1 := tyB_small a (hh.2 a ha)
    have h2 : tsz a ≤ tsz t := by
      have := tsz_eta t
      have h3 : tsz a ≤ tszT t.args t.args.length := by
        unfold tszT; rw [List.take_length]
        have : ∀ {l : List Ty}, a ∈ l → tsz a ≤ (l.map tsz).sum := fun {l} hl => by
          induction l with
          | nil => cases hl
          | cons b r ih => rcases List.mem_cons.1 hl with rfl | hl <;> simp only [List.map_cons, List.sum_cons]; omega; have := ih hl; omega
        exact this ha
      omega
    omega
  have z : ∀ c : UInt8, (ByteArray.mk #[c]).size = 1 := fun _ => rfl
  by_cases k1 : t.kind = 1
  · have e : tyB t = ⟨#[73]⟩ := by rw [tyB_eta, if_pos k1]
    have g1 := eq_true k1
    refine Run ((And.intro (eTy_eta t) (And.intro @g1 @e))) ?_; repeat' (first | (with_reducible exact True.intro) | (with_reducible refine Lf.mk ?_ ?_) | (with_reducible intro hb))
  · have g1 := eq_false k1
    by_cases k2 : t.kind = 2
    · have e : tyB t = ⟨#[66]⟩ := by rw [tyB_eta, if_neg k1, if_pos k2]
      have g2 := eq_true k2
      refine Run ((And.intro (And.intro (eTy_eta t) @g1) (And.intro @g2 @e))) ?_; repeat' (first | (with_reducible exact True.intro) | (with_reducible refine Lf.mk ?_ ?_) | (with_reducible intro hb))
    · have g2 := eq_false k2
      by_cases k4 : t.kind = 4
      · have g4 := eq_true k4
        have ha : t.args.length = 1 := by have := hh.1; unfold THd at this; omega
        have h0 : 0 < t.args.length := by omega
        have hs0 := hasz _ (List.getElem_mem h0)
        have e : ⟨#[91]⟩ ++ tyB t.args[0] ++ ⟨#[93]⟩ = tyB t := by
          rw [tyB_eta t, if_neg k1, if_neg k2, if_pos k4]
          simp [h0]
        have b1 : (ByteArray.mk #[91]).size = 1 := rfl
        have b2 : (ByteArray.mk #[93]).size = 1 := rfl
        refine Run ((And.intro (And.intro (eTy_eta t) @g1) (And.intro @g2 (And.intro @g4 @h0)))) ?_; repeat' (first | (with_reducible exact True.intro) | (with_reducible refine Lf.mk ?_ ?_) | (with_reducible intro hb))
        refine Cal ((eTy_eta t)) (H _ (List.getElem_mem h0) _) ?_
        refine Run (@e) ?_; repeat' (first | (with_reducible exact True.intro) | (with_reducible refine Lf.mk ?_ ?_) | (with_reducible intro hb))
      · have g4 := eq_false k4
        by_cases k5 : t.kind = 5
        · have g5 := eq_true k5
          have ha : t.args.length = 2 := by have := hh.1; unfold THd at this; omega
          have h0 : 0 < t.args.length := by omega
          have h1 : 1 < t.args.length := by omega
          have hs0 := hasz _ (List.getElem_mem h0)
          have hs1 := hasz _ (List.getElem_mem h1)
          have e : ⟨#[40]⟩ ++ tyB t.args[0] ++ ⟨#[62]⟩ ++ tyB t.args[1] ++ ⟨#[41]⟩ = tyB t := by
            rw [tyB_eta t, if_neg k1, if_neg k2, if_neg k4, if_pos k5]
            simp [h0, h1]
          have b1 : (ByteArray.mk #[40]).size = 1 := rfl
          have b2 : (ByteArray.mk #[62]).size = 1 := rfl
          have b3 : (ByteArray.mk #[41]).size = 1 := rfl
          refine Run ((And.intro (And.intro (eTy_eta t) (And.intro @g1 @g2)) (And.intro (And.intro @g4 @g5) (And.intro @h0 @h1)))) ?_; repeat' (first | (with_reducible exact True.intro) | (with_reducible refine Lf.mk ?_ ?_) | (with_reducible intro hb))
          refine Cal ((eTy_eta t)) (H _ (List.getElem_mem h0) _) ?_
          refine Run ((And.intro (eTy_eta t) (And.intro @h0 @h1))) ?_; repeat' (first | (with_reducible exact True.intro) | (with_reducible refine Lf.mk ?_ ?_) | (with_reducible intro hb))
          refine Cal ((eTy_eta t)) (H _ (List.getElem_mem h1) _) ?_
          refine Run (@e) ?_; repeat' (first | (with_reducible exact True.intro) | (with_reducible refine Lf.mk ?_ ?_) | (with_reducible intro hb))
        · have g5 := eq_false k5
          obtain ⟨hl, hL⟩ := THd_rec hh.1 k1 k2 k4 k5
          have hpl := tyParts_len hl.symm
          generalize hP : tyParts t (t.args.map tyB) = Pt at *
          refine Run ((And.intro (And.intro (eTy_eta t) @g1) (And.intro @g2 (And.intro @g4 @g5)))) ?_; repeat' (first | (with_reducible exact True.intro) | (with_reducible refine Lf.mk ?_ ?_) | (with_reducible intro hb))
          refine Trn (α := Nat) [3, 4, 5, 48, 49, 50, 51, 52, 53, 54, 55, 56, 57, 58, 59, 60, 61, 62, 63, 64, 65, 66] (fun i => [(48, iT i), (3, .c (.os 84 i))]) (fun i => [(84, .vec 9 1 i ((Pt.take i).flatMap eS) true)]) (fun i => i ≤ t.labels.length) (fun i => t.labels.length - i) (0) (Nat.zero_le _) ((eTy_eta t)) ?_; intro lx hI; obtain i := lx; (try simp only [List.nil_append, List.cons_append] at hI ⊢)
          by_cases hlt : lx < t.labels.length
          · have hla : lx < t.args.length := by omega
            have hlp : lx < Pt.length := by omega
            have hs0 := hasz _ (List.getElem_mem hla)
            have hlz : t.labels[lx].size ≤ 2^20 := hls.2 _ (List.getElem_mem hlt)
            have ep : Pt[lx] = t.labels[lx] ++ ⟨#[58]⟩ ++ tyB t.args[lx] := by subst hP; exact tyParts_at hl.symm hla
            have en : (Pt.take (lx + 1)).flatMap eS = (Pt.take lx).flatMap eS ++ [.sc (.string (t.labels[lx] ++ ⟨#[58]⟩ ++ tyB t.args[lx]))] := by rw [take_at hlp, List.flatMap_append, ep]; rfl
            have b1 : (ByteArray.mk #[58]).size = 1 := rfl
            refine Run ((And.intro (And.intro (eTy_eta t) @hlt) (And.intro @eS.eq_1 @hla))) ?_; repeat' (first | (with_reducible exact True.intro) | (with_reducible refine Lf.mk ?_ ?_) | (with_reducible intro hb))
            refine Cal ((eTy_eta t)) (H _ (List.getElem_mem hla) _) ?_
            refine Run ((And.intro (eTy_eta t) (And.intro @hlt @eS.eq_1))) ?_; repeat' (first | (with_reducible exact True.intro) | (with_reducible refine Lf.mk ?_ ?_) | (with_reducible intro hb))
            exact Nxt ((And.intro @en (eTy_eta t))) (lx + 1) (by omega) (by first | omega | (simp; omega))
          · obtain rfl : lx = t.labels.length := by omega
            have et : Pt.take t.labels.length = Pt := List.take_of_length_le (by omega)
            have e : ⟨#[123]⟩ ++ joinB Pt ⟨#[44]⟩ ++ ⟨#[125]⟩ = tyB t := by rw [tyB_eta t, if_neg k1, if_neg k2, if_neg k4, if_neg k5, hP]
            have b1 : (ByteArray.mk #[123]).size = 1 := rfl
            have b2 : (ByteArray.mk #[125]).size = 1 := rfl
            have hjs : (joinB Pt ⟨#[44]⟩).size ≤ 2^40 := by
              have : (tyB t).size = 1 + (joinB Pt ⟨#[44]⟩).size + 1 := by rw [← e, ByteArray.size_append, ByteArray.size_append, b1, b2]
              omega
            have hj := sjoin3_q Pt ⟨#[44]⟩ (by omega) (by omega) 84
            rw [show Pt.length = t.labels.length by omega] at hj
            refine Run ((And.intro (eTy_eta t) (And.intro @hlt @et))) ?_; repeat' (first | (with_reducible exact True.intro) | (with_reducible refine Lf.mk ?_ ?_) | (with_reducible intro hb))
            refine CalO ((eTy_eta t)) (hj) ?_
            refine Run (@e) ?_; repeat' (first | (with_reducible exact True.intro) | (with_reducible refine Lf.mk ?_ ?_) | (with_reducible intro hb))

theorem typeText_ok (t : Ty) (h : okTy (2^20) t) (hf : TF t) (hz : tsz t ≤ 2^30) (rest : List IV) : FnP Try.prog 210 [.c (.im (.pt (eTy t ++ rest)))] (sT (tyB t)) :=
  typeText_of t h hf hz rest fun u hu rest => typeText_ok u ((okTy_iff.1 h).2.2.2 u hu) (((TF_eta t).1 hf).2 u hu) (by
    have := tsz_eta t
    have h3 : tsz u ≤ tszT t.args t.args.length := by
      unfold tszT; rw [List.take_length]
      have : ∀ {l : List Ty}, u ∈ l → tsz u ≤ (l.map tsz).sum := fun {l} hl => by
        induction l with
        | nil => cases hl
        | cons b r ih => rcases List.mem_cons.1 hl with rfl | hl <;> simp only [List.map_cons, List.sum_cons]; omega; have := ih hl; omega
      exact this hu
    omega) rest
termination_by SizeOf.sizeOf t
decreasing_by exact Ty.mem hu
/-- The text of a type, if it is right. -/
noncomputable def _root_.Go.VC.fmtTy (t : Ty) : ByteArray := if TyOk t then tyB t else ⟨#[]⟩
def fc169A74 := (And.intro (And.intro (And.intro (And.intro sz4 (And.intro ag4 zv4)) (And.intro un4 (And.intro sz9 ag9))) (And.intro (And.intro zv9 (And.intro un9 sz77)) (And.intro ag77 (And.intro zv77 fl77_0)))) (And.intro (And.intro (And.intro fl77_1 (And.intro fl77_2 pl77)) (And.intro sz159 (And.intro ag159 zv159))) (And.intro (And.intro un159 (And.intro okf186 okf210)) (And.intro sz3 (And.intro sz63 sz75)))))
theorem implFmtTy_ok (t : Ty) (h : okTy (2^20) t) (hz : zTy t ≤ 2^40) : FnS Try.prog 169 [] [agT (eTy t)] [] (sT (fmtTy t)) := by
  refine FnS.go [0, 1, 2, 5] [] Try.func169 rfl (fun kt kz => ?_)
  have fcx := fc169A74
  simp only [Try.f169]
  refine Run ((eTy_eta t)) ?_; repeat' (first | (with_reducible exact True.intro) | (with_reducible refine Lf.mk ?_ ?_) | (with_reducible intro hb))
  refine Cal ((eTy_eta t)) (implTyOk_ok t h hz) ?_
  by_cases hk : TyOk t
  · have gk := eq_true hk
    have e : tyB t = fmtTy t := by unfold fmtTy; rw [if_pos hk]
    have hT := typeText_ok t h hk.2.2 (by have := hk.1; omega) []
    rw [List.append_nil] at hT
    refine Run ((And.intro (eTy_eta t) @gk)) ?_; repeat' (first | (with_reducible exact True.intro) | (with_reducible refine Lf.mk ?_ ?_) | (with_reducible intro hb))
    refine Cal ((eTy_eta t)) (hT) ?_
    refine Run (@e) ?_; repeat' (first | (with_reducible exact True.intro) | (with_reducible refine Lf.mk ?_ ?_) | (with_reducible intro hb))
  · have gk := eq_false hk
    have e : fmtTy t = ⟨#[]⟩ := by unfold fmtTy; rw [if_neg hk]
    refine Run ((And.intro (eTy_eta t) (And.intro @gk @e))) ?_; repeat' (first | (with_reducible exact True.intro) | (with_reducible refine Lf.mk ?_ ?_) | (with_reducible intro hb))

end Go.VC.T
/- Data (Value): how they are measured, copied and compared. -/
namespace Go.VC.T
open Go Go.VC Go.Proofs Go.VC.F
set_option linter.unusedSimpArgs false
set_option linter.unusedVariables false
set_option linter.defProp false
set_option maxRecDepth 100000
set_option maxHeartbeats 2000000
def fc201SValue := (And.intro (And.intro (And.intro (And.intro (And.intro sz3 ag3) (And.intro zv3 un3)) (And.intro (And.intro sz4 ag4) (And.intro zv4 un4))) (And.intro (And.intro (And.intro sz63 ag63) (And.intro zv63 sb63)) (And.intro (And.intro un63 el63) (And.intro ap63 sz165)))) (And.intro (And.intro (And.intro (And.intro ag165 zv165) (And.intro sb165 un165)) (And.intro (And.intro el165 ap165) (And.intro sz245 ag245))) (And.intro (And.intro (And.intro zv245 fl245_0) (And.intro fl245_1 fl245_2)) (And.intro (And.intro fl245_3 pl245) (And.intro okf139 okf163)))))
theorem szValue_of (t : Val) (h : okVal (2^48) t) (H0 : ∀ left : Int, 0 ≤ left ∧ left ≤ 2^20 → FnP Try.prog 163 [slT eVal t.args, iT left] (iT (szR (zL zVal t.args) left))) (left : Int) (hl : 0 ≤ left ∧ left ≤ 2^20) : FnS Try.prog 201 [] [agT (eVal t), iT left] [] (iT (szR (zVal t) left)) := by
  refine FnS.go [0, 1, 2, 4, 10, 16] [] Try.func201 rfl (fun kt kz => ?_)
  have fcx := fc201SValue
  simp only [Try.f201]
  have ho := okVal_iff.1 h
  refine Run ((And.intro @eVal_eta @szR_add)) ?_; repeat' (first | (with_reducible exact True.intro) | (with_reducible refine Lf.mk ?_ ?_) | (with_reducible intro hb))
  refine Cal ((And.intro @eVal_eta @szR_add)) (szStringS_ok _ ho.2.2.1 _ hl) ?_
  have hz := szR_le (n := zSL t.labels) hl.1
  refine Run ((And.intro @eVal_eta @szR_add)) ?_; repeat' (first | (with_reducible exact True.intro) | (with_reducible refine Lf.mk ?_ ?_) | (with_reducible intro hb))
  · congr 4; have s1 := szR_spec (zSL t.labels) left; have s2 := szR_spec (zVal t) left; rw [zVal_eta] at s2 ⊢; omega
  · skip
    refine Cal ((And.intro @eVal_eta @szR_add)) (H0 _ ⟨(by assumption), by have := szR_le (n := zSL t.labels) hl.1; omega⟩) ?_
    have hz := szR_le (n := zSL t.labels + zL zVal t.args) hl.1
    refine Run ((And.intro @eVal_eta @szR_add)) ?_; repeat' (first | (with_reducible exact True.intro) | (with_reducible refine Lf.mk ?_ ?_) | (with_reducible intro hb))
    · congr 4; have s1 := szR_spec (zSL t.labels + zL zVal t.args) left; have s2 := szR_spec (zVal t) left; rw [zVal_eta] at s2 ⊢; omega
    · skip
      rw [zVal_eta]
def fc163SValue := (And.intro (And.intro (And.intro (And.intro sz3 (And.intro ag3 zv3)) (And.intro un3 (And.intro sz4 ag4))) (And.intro (And.intro zv4 (And.intro un4 sz165)) (And.intro ag165 (And.intro zv165 sb165)))) (And.intro (And.intro (And.intro un165 (And.intro el165 ap165)) (And.intro sz245 (And.intro ag245 zv245))) (And.intro (And.intro fl245_0 (And.intro fl245_1 fl245_2)) (And.intro (And.intro fl245_3 pl245) (And.intro okf201 sz63)))))
theorem szValueS_of (xs : List Val) (hx : okLs (2^48) okVal xs) (H : ∀ t ∈ xs, ∀ left : Int, 0 ≤ left ∧ left ≤ 2^20 → FnP Try.prog 201 [agT (eVal t), iT left] (iT (szR (zVal t) left))) (left : Int) (hl : 0 ≤ left ∧ left ≤ 2^20) : FnS Try.prog 163 [] [slT eVal xs, iT left] [] (iT (szR (zL zVal xs) left)) := by
  refine FnS.go [0, 1, 4, 5, 11, 15, 25] [] Try.func163 rfl (fun kt kz => ?_)
  have fcx := fc163SValue
  simp only [Try.f163]
  have hx1 := hx.1
  refine Run (cast_succ) ?_; repeat' (first | (with_reducible exact True.intro) | (with_reducible refine Lf.mk ?_ ?_) | (with_reducible intro hb))
  · simp only [szR_nil hb zL_len]
  · rw [szR_sub hb]
    have hb2 := szR_sub hb ▸ hb
    refine Trn (α := Nat) [1, 4, 5, 12, 13, 14, 15, 16, 17, 18, 19, 20, 21, 22, 23, 24, 25] (fun i => [(5, iT i), (1, iT (szR (zT zVal xs i) left))]) (fun i => []) (fun i => i ≤ xs.length ∧ 0 ≤ szR (zT zVal xs i) left) (fun i => xs.length - i) (0) (⟨Nat.zero_le _, by rw [zT_zero]; exact hb2⟩) ((zT_zero (z := zVal) (l := xs))) ?_; intro lx hI; obtain i := lx; (try simp only [List.nil_append, List.cons_append] at hI ⊢)
    have hz := szR_le (n := zT zVal xs lx) hl.1
    by_cases hlt : lx < xs.length
    · have e : szR (zVal xs[lx]) (szR (zT zVal xs lx) left) = szR (zT zVal xs (lx + 1)) left := by rw [zT_succ hlt, ← szR_add]
      refine Run (@eVal_eta) ?_; repeat' (first | (with_reducible exact True.intro) | (with_reducible refine Lf.mk ?_ ?_) | (with_reducible intro hb))
      · refine Cal (@eVal_eta) (H _ (List.getElem_mem hlt) _ ⟨hI.2, by omega⟩) ?_
        refine Run (cast_succ) ?_; repeat' (first | (with_reducible exact True.intro) | (with_reducible refine Lf.mk ?_ ?_) | (with_reducible intro hb))
        · rw [e] at hb
          rw [szR_neg hb zT_le]
        · rw [e] at hb
          exact Nxt (@e) (lx + 1) (⟨by omega, hb⟩) (by first | omega | (simp; omega))
      · omega
    · refine Run (cast_succ) ?_; repeat' (first | (with_reducible exact True.intro) | (with_reducible refine Lf.mk ?_ ?_) | (with_reducible intro hb))
      · omega
      · rw [zT_all (by omega)]

theorem szValue_ok (t : Val) (h : okVal (2^48) t) (left : Int) (hl : 0 ≤ left ∧ left ≤ 2^20) : FnP Try.prog 201 [agT (eVal t), iT left] (iT (szR (zVal t) left)) := szValue_of t h (fun left hl => szValueS_of t.args ((okVal_iff.1 h).2.2.2) (fun u hu left hl => szValue_ok u (((okVal_iff.1 h).2.2.2).2 u hu) left hl) left hl) left hl
termination_by SizeOf.sizeOf t
decreasing_by all_goals first | exact Ty.mem hu | exact Val.mem hu | exact Tm.mem hu | exact Pl.mem hu | exact Hd.memP hu | exact Hd.memQ hu | exact Cmp.memH _
theorem szValueS_ok (xs : List Val) (h : okLs (2^48) okVal xs) (left : Int) (hl : 0 ≤ left ∧ left ≤ 2^20) : FnP Try.prog 163 [slT eVal xs, iT left] (iT (szR (zL zVal xs) left)) := szValueS_of xs h (fun t ht left hl => szValue_ok t (h.2 t ht) left hl) left hl
def fc202SValue := (And.intro (And.intro (And.intro (And.intro (And.intro sz3 ag3) (And.intro zv3 (And.intro un3 sz63))) (And.intro (And.intro ag63 zv63) (And.intro sb63 (And.intro un63 el63)))) (And.intro (And.intro (And.intro ap63 sz103) (And.intro ag103 (And.intro zv103 sb103))) (And.intro (And.intro un103 (And.intro el103 ap103)) (And.intro sz107 (And.intro ag107 zv107))))) (And.intro (And.intro (And.intro (And.intro fl107_0 fl107_1) (And.intro fl107_2 (And.intro fl107_3 pl107))) (And.intro (And.intro sz165 (And.intro ag165 zv165)) (And.intro sb165 (And.intro un165 el165)))) (And.intro (And.intro (And.intro ap165 sz245) (And.intro ag245 (And.intro zv245 fl245_0))) (And.intro (And.intro fl245_1 (And.intro fl245_2 fl245_3)) (And.intro pl245 (And.intro okf143 okf165))))))
theorem toValue_w (t : Val) (h : okVal (2^20) t) (H0 : ∀ q : Nat, FnS Try.prog 165 [] [slT eVal t.args] [(q, .row t.args.length (t.args.flatMap eVal))] (.c (.os q t.args.length))) : FnS Try.prog 202 [] [agT (eVal t)] [(1000, .row t.labels.length (t.labels.flatMap eS)), (1002, .row t.args.length (t.args.flatMap eVal))] (.ag [.im (.sc (.int .i64 t.kind)), .im (.sc (.int .i64 t.n)), .os 1000 t.labels.length, .os 1002 t.args.length]) := by
  refine FnS.go [0, 1, 2, 3] [] Try.func202 rfl (fun kt kz => ?_)
  have fcx := fc202SValue
  simp only [Try.f202]
  have ho := okVal_iff.1 h
  refine Run (@eVal_eta) ?_; repeat' (first | (with_reducible exact True.intro) | (with_reducible refine Lf.mk ?_ ?_) | (with_reducible intro hb))
  refine CalI (@eVal_eta) (toStringS_o _ ho.2.2.1 1000) ?_
  refine Run (@eVal_eta) ?_; repeat' (first | (with_reducible exact True.intro) | (with_reducible refine Lf.mk ?_ ?_) | (with_reducible intro hb))
  refine CalI (@eVal_eta) (H0 1002) ?_
  refine Run (@eVal_eta) ?_; repeat' (first | (with_reducible exact True.intro) | (with_reducible refine Lf.mk ?_ ?_) | (with_reducible intro hb))

theorem toValue_q (t : Val) (h : okVal (2^20) t) (H0 : ∀ q : Nat, FnS Try.prog 165 [] [slT eVal t.args] [(q, .row t.args.length (t.args.flatMap eVal))] (.c (.os q t.args.length))) : ∀ q0 q1 : Nat, [q0, q1].Nodup → FnS Try.prog 202 [] [agT (eVal t)] [(q0, .row t.labels.length (t.labels.flatMap eS)), (q1, .row t.args.length (t.args.flatMap eVal))] (.ag [.im (.sc (.int .i64 t.kind)), .im (.sc (.int .i64 t.n)), .os q0 t.labels.length, .os q1 t.args.length]) := by
  intro q0 q1 hq
  obtain ⟨p, hp⟩ := pml [1000, 1002] [q0, q1] (by decide) hq rfl
  simp only [List.map_cons, List.map_nil, List.cons.injEq, and_true] at hp
  refine ((toValue_w t h H0).rows.pm p).as ?_ ?_ <;> simp [rowS, rowO, renS, Ob.ren, TV.ren, renL, Cell.ren, hp]
def fc165SValue := (And.intro (And.intro (And.intro (And.intro (And.intro sz3 ag3) (And.intro zv3 (And.intro un3 sz4))) (And.intro (And.intro ag4 zv4) (And.intro un4 (And.intro sz103 ag103)))) (And.intro (And.intro (And.intro zv103 sb103) (And.intro un103 (And.intro el103 ap103))) (And.intro (And.intro sz107 ag107) (And.intro zv107 (And.intro fl107_0 fl107_1))))) (And.intro (And.intro (And.intro (And.intro fl107_2 fl107_3) (And.intro pl107 (And.intro sz165 ag165))) (And.intro (And.intro zv165 sb165) (And.intro un165 (And.intro el165 ap165)))) (And.intro (And.intro (And.intro sz245 ag245) (And.intro zv245 (And.intro fl245_0 fl245_1))) (And.intro (And.intro fl245_2 fl245_3) (And.intro pl245 (And.intro okf202 sz63))))))
theorem toValueS_w (xs : List Val) (hx : okLs (2^20) okVal xs) (H : ∀ t ∈ xs, ∀ q0 q1 : Nat, [q0, q1].Nodup → FnS Try.prog 202 [] [agT (eVal t)] [(q0, .row t.labels.length (t.labels.flatMap eS)), (q1, .row t.args.length (t.args.flatMap eVal))] (.ag [.im (.sc (.int .i64 t.kind)), .im (.sc (.int .i64 t.n)), .os q0 t.labels.length, .os q1 t.args.length])) : FnS Try.prog 165 [] [slT eVal xs] [(14, .vec 107 4 xs.length (xs.flatMap eVal) true)] (.c (.os 14 xs.length)) := by
  refine FnS.go [0, 2, 3, 4, 11] [] Try.func165 rfl (fun kt kz => ?_)
  have fcx := fc165SValue
  simp only [Try.f165]
  have hx1 := hx.1
  refine Run (cast_succ) ?_; repeat' (first | (with_reducible exact True.intro) | (with_reducible refine Lf.mk ?_ ?_) | (with_reducible intro hb))
  refine Trn (α := Nat) [4, 8, 9, 10, 11, 12, 13, 14, 15, 16, 17, 18, 19, 20, 21] (fun i => [(4, iT i), (3, .c (.os 14 xs.length))]) (fun i => [(14, .vec 107 4 xs.length (filled eVal [.sc (.int .i64 0), .sc (.int .i64 0), .sl 0 [], .sl 0 []] xs i) true)]) (fun i => i ≤ xs.length) (fun i => xs.length - i) (0) (Nat.zero_le _) (cast_succ) ?_; intro lx hI; obtain i := lx; (try simp only [List.nil_append, List.cons_append] at hI ⊢)
  refine Run (@eVal_eta) ?_; repeat' (first | (with_reducible exact True.intro) | (with_reducible refine Lf.mk ?_ ?_) | (with_reducible intro hb))
  · refine CalI (@eVal_eta) (H _ (List.getElem_mem hb) 1000 1002 (by decide)) ?_
    refine Run (@eVal_eta) ?_; repeat' (first | (with_reducible exact True.intro) | (with_reducible refine Lf.mk ?_ ?_) | (with_reducible intro hb))
    have hs := filled_step' (E := eVal) (zs := [.sc (.int .i64 0), .sc (.int .i64 0), .sl 0 [], .sl 0 []]) hb
    simp only [eVal_eta, setL_st, stL_one, slI] at hs
    exact Nxt (@hs) (lx + 1) (by omega) (by first | omega | (simp; omega))

theorem toValueS_q (xs : List Val) (hx : okLs (2^20) okVal xs) (H : ∀ t ∈ xs, ∀ q0 q1 : Nat, [q0, q1].Nodup → FnS Try.prog 202 [] [agT (eVal t)] [(q0, .row t.labels.length (t.labels.flatMap eS)), (q1, .row t.args.length (t.args.flatMap eVal))] (.ag [.im (.sc (.int .i64 t.kind)), .im (.sc (.int .i64 t.n)), .os q0 t.labels.length, .os q1 t.args.length])) (q : Nat) : FnS Try.prog 165 [] [slT eVal xs] [(q, .row xs.length (xs.flatMap eVal))] (.c (.os q xs.length)) := by
  obtain ⟨p, hp⟩ := pm1 14 q
  refine ((toValueS_w xs hx H).rows.pm p).as ?_ ?_ <;> simp [rowS, rowO, renS, Ob.ren, TV.ren, Cell.ren, hp]

theorem toValue_o (t : Val) (h : okVal (2^20) t) : ∀ q0 q1 : Nat, [q0, q1].Nodup → FnS Try.prog 202 [] [agT (eVal t)] [(q0, .row t.labels.length (t.labels.flatMap eS)), (q1, .row t.args.length (t.args.flatMap eVal))] (.ag [.im (.sc (.int .i64 t.kind)), .im (.sc (.int .i64 t.n)), .os q0 t.labels.length, .os q1 t.args.length]) := toValue_q t h (fun q => toValueS_q t.args ((okVal_iff.1 h).2.2.2) (fun u hu => toValue_o u (((okVal_iff.1 h).2.2.2).2 u hu)) q)
termination_by SizeOf.sizeOf t
decreasing_by all_goals first | exact Ty.mem hu | exact Val.mem hu | exact Tm.mem hu | exact Pl.mem hu | exact Hd.memP hu | exact Hd.memQ hu | exact Cmp.memH _
theorem toValueS_o (xs : List Val) (h : okLs (2^20) okVal xs) (q : Nat) : FnS Try.prog 165 [] [slT eVal xs] [(q, .row xs.length (xs.flatMap eVal))] (.c (.os q xs.length)) := toValueS_q xs h (fun t ht => toValue_o t (h.2 t ht)) q
def fc203SValue := (And.intro (And.intro (And.intro (And.intro (And.intro sz3 ag3) (And.intro zv3 un3)) (And.intro (And.intro sz4 ag4) (And.intro zv4 un4))) (And.intro (And.intro (And.intro sz63 ag63) (And.intro zv63 sb63)) (And.intro (And.intro un63 el63) (And.intro ap63 sz103)))) (And.intro (And.intro (And.intro (And.intro ag103 zv103) (And.intro sb103 un103)) (And.intro (And.intro el103 ap103) (And.intro sz107 ag107))) (And.intro (And.intro (And.intro zv107 fl107_0) (And.intro fl107_1 fl107_2)) (And.intro (And.intro fl107_3 pl107) (And.intro okf147 okf166)))))
theorem eqValue_of (t : Val) (h : okVal (2^20) t) (H0 : FnP Try.prog 166 [slT eVal t.args, slT eVal t.args] (bT true)) : FnS Try.prog 203 [] [agT (eVal t), agT (eVal t)] [] (bT true) := by
  refine FnS.go [0, 1, 2, 3, 4, 9, 14, 20, 26] [] Try.func203 rfl (fun kt kz => ?_)
  have fcx := fc203SValue
  simp only [Try.f203]
  have ho := okVal_iff.1 h
  refine Run (@eVal_eta) ?_; repeat' (first | (with_reducible exact True.intro) | (with_reducible refine Lf.mk ?_ ?_) | (with_reducible intro hb))
  refine Cal (@eVal_eta) (eqStringS_rf _ ho.2.2.1) ?_
  refine Run (@eVal_eta) ?_; repeat' (first | (with_reducible exact True.intro) | (with_reducible refine Lf.mk ?_ ?_) | (with_reducible intro hb))
  refine Cal (@eVal_eta) (H0) ?_
  refine Run (@eVal_eta) ?_; repeat' (first | (with_reducible exact True.intro) | (with_reducible refine Lf.mk ?_ ?_) | (with_reducible intro hb))
def fc166SValue := (And.intro (And.intro (And.intro (And.intro sz3 (And.intro ag3 zv3)) (And.intro un3 (And.intro sz4 ag4))) (And.intro (And.intro zv4 (And.intro un4 sz103)) (And.intro ag103 (And.intro zv103 sb103)))) (And.intro (And.intro (And.intro un103 (And.intro el103 ap103)) (And.intro sz107 (And.intro ag107 zv107))) (And.intro (And.intro fl107_0 (And.intro fl107_1 fl107_2)) (And.intro (And.intro fl107_3 pl107) (And.intro okf203 sz63)))))
theorem eqValueS_of (xs : List Val) (hx : okLs (2^20) okVal xs) (H : ∀ t ∈ xs, FnP Try.prog 203 [agT (eVal t), agT (eVal t)] (bT true)) : FnS Try.prog 166 [] [slT eVal xs, slT eVal xs] [] (bT true) := by
  refine FnS.go [0, 1, 4, 5, 10, 14, 26] [] Try.func166 rfl (fun kt kz => ?_)
  have fcx := fc166SValue
  simp only [Try.f166]
  have hx1 := hx.1
  refine Run (cast_succ) ?_; repeat' (first | (with_reducible exact True.intro) | (with_reducible refine Lf.mk ?_ ?_) | (with_reducible intro hb))
  refine Trn (α := Nat) [4, 5, 11, 12, 13, 14, 15, 16, 17, 18, 19, 20, 21, 22, 23, 24, 25, 26] (fun i => [(5, iT i)]) (fun i => []) (fun i => i ≤ xs.length) (fun i => xs.length - i) (0) (Nat.zero_le _) (cast_succ) ?_; intro lx hI; obtain i := lx; (try simp only [List.nil_append, List.cons_append] at hI ⊢)
  refine Run (@eVal_eta) ?_; repeat' (first | (with_reducible exact True.intro) | (with_reducible refine Lf.mk ?_ ?_) | (with_reducible intro hb))
  · refine Cal (@eVal_eta) (H _ (List.getElem_mem hb)) ?_
    refine Run (@eVal_eta) ?_; repeat' (first | (with_reducible exact True.intro) | (with_reducible refine Lf.mk ?_ ?_) | (with_reducible intro hb))
    exact Nxt (cast_succ) (lx + 1) (by omega) (by first | omega | (simp; omega))

theorem eqValue_ok (t : Val) (h : okVal (2^20) t) : FnP Try.prog 203 [agT (eVal t), agT (eVal t)] (bT true) := eqValue_of t h (eqValueS_of t.args ((okVal_iff.1 h).2.2.2) (fun u hu => eqValue_ok u (((okVal_iff.1 h).2.2.2).2 u hu)))
termination_by SizeOf.sizeOf t
decreasing_by all_goals first | exact Ty.mem hu | exact Val.mem hu | exact Tm.mem hu | exact Pl.mem hu | exact Hd.memP hu | exact Hd.memQ hu | exact Cmp.memH _
theorem eqValueS_ok (xs : List Val) (h : okLs (2^20) okVal xs) : FnP Try.prog 166 [slT eVal xs, slT eVal xs] (bT true) := eqValueS_of xs h (fun t ht => eqValue_ok t (h.2 t ht))
theorem toValue_ok (t : Val) (h : okVal (2^20) t) : FnP Try.prog 202 [agT (eVal t)] (agT (eVal t)) := (toValue_o t h 1000 1002 (by decide)).tree (by simp -dsimp (maxSteps := 2000000) (disch := omega) only [vs, ↓Option.bind_some, ev1, ofV, scalarB, Kn, Kb, calleeOf, evLoad, ptr, evField, evFieldAddr, shift, ↓pt_at, ↓pt_at1, evExtract, evBin, evLen, evConv, cellsT, noS, Cell.has, Cell.hasN, Cell.anyN, toIV, toIV0, toIVs, ownC, srcM, Ob.own, Ob.esz, allSc, nilK, lenC, ownCell, isPtr, ptrNil, frzO, Cell.frz, Cell.keys, ↓reduceIte, reduceCtorEq, Nat.reduceEqDiff, Nat.reduceBEq, Nat.reduceBNe, Nat.reduceAdd, Nat.reduceMul, Nat.reduceSub, Nat.reduceLT, Nat.reduceLeDiff, Nat.reducePow, Int.reduceLT, Int.reduceLE, Int.reduceEq, Int.reduceNe, quietB, Nat.reduceMod, Int.reduceToNat, ne_eq, eq_self, exists_const, evBytes, byRow, byL, byStr_size, ifsz, ByteArray.size_append, Option.none_or, Option.some_or, evLook, keyD, eVal_eta])
theorem toValueS_ok (xs : List Val) (h : okLs (2^20) okVal xs) : FnP Try.prog 165 [slT eVal xs] (slT eVal xs) := (toValueS_o xs h 1000).tree (by simp -dsimp (maxSteps := 2000000) (disch := omega) only [vs, ↓Option.bind_some, ev1, ofV, scalarB, Kn, Kb, calleeOf, evLoad, ptr, evField, evFieldAddr, shift, ↓pt_at, ↓pt_at1, evExtract, evBin, evLen, evConv, cellsT, noS, Cell.has, Cell.hasN, Cell.anyN, toIV, toIV0, toIVs, ownC, srcM, Ob.own, Ob.esz, allSc, nilK, lenC, ownCell, isPtr, ptrNil, frzO, Cell.frz, Cell.keys, ↓reduceIte, reduceCtorEq, Nat.reduceEqDiff, Nat.reduceBEq, Nat.reduceBNe, Nat.reduceAdd, Nat.reduceMul, Nat.reduceSub, Nat.reduceLT, Nat.reduceLeDiff, Nat.reducePow, Int.reduceLT, Int.reduceLE, Int.reduceEq, Int.reduceNe, quietB, Nat.reduceMod, Int.reduceToNat, ne_eq, eq_self, exists_const, evBytes, byRow, byL, byStr_size, ifsz, ByteArray.size_append, Option.none_or, Option.some_or, evLook, keyD])

end Go.VC.T
