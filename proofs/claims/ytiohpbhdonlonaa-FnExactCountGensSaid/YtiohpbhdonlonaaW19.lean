/- Ways of writing lists as trees, and the laws' size count: no statement of a program. -/
import Derived.Test.YtiohpbhdonlonaaW18
set_option linter.unusedSimpArgs false
set_option linter.unusedVariables false
namespace Go.VC
open Go Go.RowKit

abbrev bT (b : Bool) : TV := .c (.im (.sc (.bool b)))
abbrev iT (i : Int) : TV := .c (.im (.sc (.int .i64 i)))
abbrev sT (s : ByteArray) : TV := .c (.im (.sc (.string s)))
/-- A slice. -/
def slI {α : Type} (E : α → List IV) (xs : List α) : IV := .sl xs.length (xs.flatMap E)
abbrev slT {α : Type} (E : α → List IV) (xs : List α) : TV := .c (.im (slI E xs))
/-- A struct. -/
def agT (cs : List IV) : TV := .ag (cs.map .im)
def eS (s : ByteArray) : List IV := [.sc (.string s)]
def eI (n : Int) : List IV := [.sc (.int .i64 n)]

theorem flat_drop {α : Type} {E : α → List IV} {z : Nat} (hE : ∀ a, (E a).length = z) : ∀ {xs : List α} {i : Nat} {a : α}, xs[i]? = some a → (xs.flatMap E).drop (i * z) = E a ++ (xs.drop (i + 1)).flatMap E := by
  intro xs
  induction xs with
  | nil => intro i a h; cases h
  | cons b r ih =>
    intro i a h
    cases i with
    | zero => simp at h; subst h; simp
    | succ i =>
      simp only [List.getElem?_cons_succ] at h
      rw [List.flatMap_cons, Nat.succ_mul, Nat.add_comm, ← List.drop_drop, ← hE b, List.drop_left, hE b, ih h]
      simp
theorem take_succ_iff {α : Type} {xs ys : List α} {i : Nat} {x y : α} (ht : xs.take i = ys.take i) (hx : xs[i]? = some x) (hy : ys[i]? = some y) (h : x = y) : xs.take (i + 1) = ys.take (i + 1) := by
  rw [List.take_add_one, List.take_add_one, ht, hx, hy, h]
theorem drop_get {α : Type} {xs : List α} {i : Nat} {x : α} (hx : xs[i]? = some x) : xs.drop i = x :: xs.drop (i + 1) := by
  obtain ⟨h, rfl⟩ := List.getElem?_eq_some_iff.1 hx
  exact List.drop_eq_getElem_cons h
theorem get_lt {α : Type} {xs : List α} {i : Nat} (h : i < xs.length) : ∃ x, xs[i]? = some x ∧ x ∈ xs := ⟨xs[i], by simp [h], List.getElem_mem h⟩

/-- The count of what is left, over a list. -/
def szL {α : Type} (f : α → Int → Int) : List α → Int → Int
  | [], l => l
  | x :: r, l => if f x l < 0 then -1 else szL f r (f x l)
def szS {α : Type} (f : α → Int → Int) (xs : List α) (l : Int) : Int := if l - xs.length < 0 then -1 else szL f xs (l - xs.length)
def szStr (s : ByteArray) (l : Int) : Int := if l - s.size < 0 then -1 else l - s.size
theorem szL_neg {α : Type} {f : α → Int → Int} {x : α} {r : List α} {l : Int} (h : f x l < 0) : szL f (x :: r) l = -1 := by rw [szL, if_pos h]
theorem szL_pos {α : Type} {f : α → Int → Int} {x : α} {r : List α} {l : Int} (h : 0 ≤ f x l) : szL f (x :: r) l = szL f r (f x l) := by rw [szL, if_neg (by omega)]
theorem szStr_neg {s : ByteArray} {l : Int} (h : l - s.size < 0) : szStr s l = -1 := if_pos h
theorem szStr_pos {s : ByteArray} {l : Int} (h : 0 ≤ l - s.size) : szStr s l = l - s.size := if_neg (by omega)
/-- It counts down. -/
def Dn {α : Type} (f : α → Int → Int) : Prop := ∀ a l, 0 ≤ l → f a l ≤ l ∧ -1 ≤ f a l
theorem dn_str : Dn szStr := by intro a l h; unfold szStr; split <;> omega
theorem dn_L {α : Type} {f : α → Int → Int} (h : Dn f) : Dn (szL f) := by
  intro xs
  induction xs with
  | nil => intro l hl; simp [szL]; omega
  | cons x r ih =>
    intro l hl
    unfold szL
    split
    · omega
    · have h1 := h x l hl
      have := ih (f x l) (by omega)
      omega
theorem dn_S {α : Type} {f : α → Int → Int} (h : Dn f) : Dn (szS f) := by
  intro xs l hl
  unfold szS
  split
  · omega
  · have := dn_L h xs (l - xs.length) (by omega)
    omega
theorem szS_len {α : Type} {f : α → Int → Int} (h : Dn f) {xs : List α} {l : Int} (hs : 0 ≤ szS f xs l) : (xs.length : Int) ≤ l := by
  unfold szS at hs
  split at hs <;> omega
theorem szL_mem {α : Type} {f : α → Int → Int} (h : Dn f) : ∀ {xs : List α} {l : Int}, 0 ≤ l → 0 ≤ szL f xs l → ∀ a ∈ xs, ∃ l', 0 ≤ l' ∧ l' ≤ l ∧ 0 ≤ f a l' := by
  intro xs
  induction xs with
  | nil => intro l _ _ a ha; cases ha
  | cons x r ih =>
    intro l hl hs a ha
    unfold szL at hs
    split at hs
    · omega
    · rename_i hx
      have h1 := h x l hl
      rcases List.mem_cons.1 ha with rfl | ha
      · exact ⟨l, hl, Int.le_refl _, by omega⟩
      · obtain ⟨l', h2, h3, h4⟩ := ih (by omega) hs a ha
        exact ⟨l', h2, by omega, h4⟩
theorem szS_mem {α : Type} {f : α → Int → Int} (h : Dn f) {xs : List α} {l : Int} (hl : 0 ≤ l) (hs : 0 ≤ szS f xs l) : ∀ a ∈ xs, ∃ l', 0 ≤ l' ∧ l' ≤ l ∧ 0 ≤ f a l' := by
  intro a ha
  unfold szS at hs
  split at hs
  · omega
  · obtain ⟨l', h1, h2, h3⟩ := szL_mem h (by omega) hs a ha
    exact ⟨l', h1, by omega, h3⟩
theorem szStr_le {s : ByteArray} {l : Int} (h : 0 ≤ szStr s l) : (s.size : Int) ≤ l := by
  unfold szStr at h
  split at h <;> omega
theorem wrap_succ {i n : Nat} (h : i < n) (hn : n ≤ 2 ^ 60) : IntKind.i64.wrap ((i : Int) + 1) = ((i + 1 : Nat) : Int) := by
  rw [wrap_i64 (by omega) (by omega)]; simp
theorem dn_neg {α : Type} {f : α → Int → Int} (h : Dn f) {a : α} {l : Int} (hl : 0 ≤ l) (hs : f a l < 0) : f a l = -1 := by
  have := h a l hl
  omega
theorem setL_mid {α : Type} {ys : List α} : ∀ {A B C : List α}, ys.length = B.length → setL (A ++ (B ++ C)) A.length ys = A ++ (ys ++ C) := by
  induction ys with
  | nil =>
    intro A B C h
    obtain rfl : B = [] := List.eq_nil_of_length_eq_zero h.symm
    rfl
  | cons y r ih =>
    intro A B C h
    cases B with
    | nil => cases h
    | cons b B =>
      have h1 : (A ++ (b :: B ++ C)).set A.length y = (A ++ [y]) ++ (B ++ C) := by
        rw [List.set_append_right _ _ (Nat.le_refl _), Nat.sub_self]; simp
      rw [setL, h1]
      have := ih (A := A ++ [y]) (B := B) (C := C) (by simpa using h)
      rw [List.length_append, List.length_singleton] at this
      rw [this]; simp
/-- As setL, from the front. -/
def stL {α : Type} : List α → Nat → List α → List α
  | cs, _, [] => cs
  | [], _, _ :: _ => []
  | _ :: cs, 0, y :: r => y :: stL cs 0 r
  | c :: cs, n + 1, y :: r => c :: stL cs n (y :: r)
theorem stL_nil {α : Type} (cs : List α) (n : Nat) : stL cs n [] = cs := by cases cs <;> rfl
theorem setL_cons {α : Type} {c : α} : ∀ {ys cs : List α} {n : Nat}, setL (c :: cs) (n + 1) ys = c :: setL cs n ys
  | [], cs, n => rfl
  | y :: r, cs, n => by rw [setL, setL, List.set_cons_succ, setL_cons]
theorem setL_enil {α : Type} : ∀ {ys : List α} {n : Nat}, setL ([] : List α) n ys = []
  | [], n => rfl
  | y :: r, n => by rw [setL, List.set_nil, setL_enil]
theorem setL_st {α : Type} : ∀ {cs : List α} {n : Nat} {ys : List α}, setL cs n ys = stL cs n ys
  | cs, n, [] => by rw [stL_nil]; rfl
  | [], n, y :: r => by rw [setL_enil]; rfl
  | c :: cs, 0, y :: r => by rw [setL, List.set_cons_zero, setL_cons, setL_st (cs := cs)]; rfl
  | c :: cs, n + 1, y :: r => by rw [setL_cons, setL_st (cs := cs)]; rfl
theorem stL_one {α : Type} {cs : List α} {n : Nat} {v : α} : stL cs n [v] = cs.set n v := by rw [← setL_st]; rfl
theorem stL_c0 {α : Type} {c y y' : α} {cs r : List α} : stL (c :: cs) 0 (y :: y' :: r) = y :: stL cs 0 (y' :: r) := rfl
theorem stL_cs {α : Type} {c y y' : α} {cs r : List α} {n : Nat} : stL (c :: cs) (n + 1) (y :: y' :: r) = c :: stL cs n (y :: y' :: r) := rfl
theorem reps_len2 {α : Type} (l : List α) : ∀ n, (reps n l).length = n * l.length := by
  intro n
  induction n with
  | zero => simp [reps]
  | succ n ih => rw [reps, List.length_append, ih, Nat.succ_mul, Nat.add_comm]
theorem flat_len {α : Type} {E : α → List IV} {z : Nat} (hE : ∀ a, (E a).length = z) (xs : List α) : (xs.flatMap E).length = xs.length * z := (flat_at (fun a _ => hE a)).1
/-- A row that is filled from the left. -/
def filled {α : Type} (E : α → List IV) (zs : List IV) (xs : List α) (i : Nat) : List IV := (xs.take i).flatMap E ++ reps (xs.length - i) zs
theorem filled_zero {α : Type} {E : α → List IV} {zs : List IV} {xs : List α} : filled E zs xs 0 = reps xs.length zs := by simp [filled]
theorem filled_all {α : Type} {E : α → List IV} {zs : List IV} {xs : List α} {i : Nat} (h : xs.length ≤ i) : filled E zs xs i = xs.flatMap E := by
  rw [filled, List.take_of_length_le h, Nat.sub_eq_zero_of_le h]; simp [reps]
theorem filled_len {α : Type} {E : α → List IV} {zs : List IV} {z : Nat} (hE : ∀ a, (E a).length = z) (hz : zs.length = z) {xs : List α} {i : Nat} (h : i ≤ xs.length) : (filled E zs xs i).length = xs.length * z := by
  rw [filled, List.length_append, flat_len hE, reps_len2, hz, ← Nat.add_mul]
  simp; rw [Nat.min_eq_left h]; congr 1; omega
theorem filled_step {α : Type} {E : α → List IV} {zs : List IV} {z : Nat} (hE : ∀ a, (E a).length = z) (hz : zs.length = z) {xs : List α} {i : Nat} {x : α} (hx : xs[i]? = some x) : setL (filled E zs xs i) (i * z) (E x) = filled E zs xs (i + 1) := by
  have hi := (List.getElem?_eq_some_iff.1 hx).1
  have h1 : xs.length - i = xs.length - (i + 1) + 1 := by omega
  have h2 : ((xs.take i).flatMap E).length = i * z := by rw [flat_len hE]; simp; rw [Nat.min_eq_left (by omega)]
  rw [filled, h1, reps, ← h2, setL_mid (by rw [hE, hz]), filled, List.take_add_one, hx]
  simp
end Go.VC
