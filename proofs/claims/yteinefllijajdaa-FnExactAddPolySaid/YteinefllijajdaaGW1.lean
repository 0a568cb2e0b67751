/- Abstract values of a Go function's variables, and how a world of the machine bears them: no statement of a program. -/
import Derived.Below
import Derived.Tactics
import Derived.Laws.AppendOwn
import Derived.Laws.OwnMore
import Derived.Laws.MakeOwn
import Derived.Orders
import Derived.MapKept
import Derived.Laws.Slices
import Derived.Laws.Cells
import Derived.Laws.Strings
import Derived.WalkKit
import Derived.Laws.Tables
import Derived.WideLaws
import Derived.Laws.BytesString
set_option linter.unusedSimpArgs false
set_option linter.unusedVariables false
namespace Go.VC
open Go Go.RowKit

/-- A value that leads to no memory. -/
def scalarB : Value → Bool
  | .bool _ | .int _ _ | .float _ _ | .string _ | .pointer none | .map none | .nilFunc | .nilIface => true
  | _ => false

/-- A tree: a scalar; a slice (its length, its cells); a pointer (the cells from there on); a function with what it captured. -/
inductive IV where
  | sc (v : Value)
  | sl (n : Nat) (cs : List IV)
  | pt (cs : List IV)
  | fn (f : FuncId) (caps : List IV)
  deriving Inhabited

/-- To whom a block belongs: to nobody that counts; to all, and it is never written again; to the object k. -/
inductive Lb where
  | no
  | im
  | ob (k : Nat)
  deriving DecidableEq, Inhabited
abbrev Lab := Nat → Lb

/-- The value 'v' reads as the tree 'x' in the world 'w', by blocks that are never written again. -/
inductive RI (w : World) (ω : Lab) : IV → Value → Prop
  | sc (v : Value) : scalarB v = true → RI w ω (.sc v) v
  | slnil : RI w ω (.sl 0 []) (.slice none 0 0)
  | sl (n c : Nat) (cs : List IV) (a : Addr) (vs : Nat → Value) : (cs ≠ [] → ω a.block = .im) → n ≤ c → c ≤ maxLen →
      (∀ j, j < cs.length → w.cell? (a.add j) = some (vs j)) → (∀ j x, cs[j]? = some x → RI w ω x (vs j)) → RI w ω (.sl n cs) (.slice (some a) n c)
  | pt (cs : List IV) (a : Addr) (vs : Nat → Value) : (cs ≠ [] → ω a.block = .im) →
      (∀ j, j < cs.length → w.cell? (a.add j) = some (vs j)) → (∀ j x, cs[j]? = some x → RI w ω x (vs j)) → RI w ω (.pt cs) (.pointer (some a))
  | fn (f : FuncId) (caps : List IV) (vs : List Value) : vs.length = caps.length → (∀ j x, caps[j]? = some x → RI w ω x (vs.getD j undef)) → RI w ω (.fn f caps) (.func (.func f) #[] vs.toArray)

theorem RI.one {w : World} {ω : Lab} {x : IV} {v : Value} (h : RI w ω x v) : v.oneCell' = true := by
  cases h with
  | sc v hs => cases v <;> simp_all [scalarB, Value.oneCell']
  | _ => rfl

theorem addr_add_block (a : Addr) (m : Nat) : (a.add m).block = a.block := by unfold Addr.add; split <;> rfl
theorem addr_add_add (a : Addr) (m n : Nat) : (a.add m).add n = a.add (m + n) := by
  unfold Addr.add
  by_cases hm : m = 0 <;> by_cases hn : n = 0 <;> simp [hm, hn, Nat.add_assoc]

/-- What is read stays read where its blocks stay. -/
theorem RI.kept {w w' : World} {ω ω' : Lab} {x : IV} {v : Value} (hD : ∀ b, ω b = .im → ω' b = .im ∧ w'.heap[b]? = w.heap[b]?) (h : RI w ω x v) : RI w' ω' x v := by
  induction h with
  | sc v hs => exact .sc v hs
  | slnil => exact .slnil
  | sl n c cs a vs hd hn hm hcell _ ih => exact .sl n c cs a vs (fun h => (hD _ (hd h)).1) hn hm (fun j hj => by rw [World.cell?_of_block (w := w)]; exact hcell j hj; rw [addr_add_block]; exact (hD _ (hd (by rintro rfl; simp at hj))).2) ih
  | pt cs a vs hd hcell _ ih => exact .pt cs a vs (fun h => (hD _ (hd h)).1) (fun j hj => by rw [World.cell?_of_block (w := w)]; exact hcell j hj; rw [addr_add_block]; exact (hD _ (hd (by rintro rfl; simp at hj))).2) ih
  | fn f caps vs hl _ ih => exact .fn f caps vs hl ih

/-- The value 'v' reads as the tree 'x', by the blocks 'S', each reached once. -/
inductive RO (w : World) : IV → Value → (Nat → Prop) → Prop
  | sc (v : Value) (S : Nat → Prop) : scalarB v = true → (∀ b, ¬ S b) → RO w (.sc v) v S
  | z (a : Option Addr) (S : Nat → Prop) : (∀ b, ¬ S b) → RO w (.sl 0 []) (.slice a 0 0) S
  | sl (n c g : Nat) (t : TypeId) (arr : Array Value) (cs : List IV) (Ss : Nat → Nat → Prop) (S : Nat → Prop) : w.heap[g]? = some (.cells arr t (0, 0)) → 0 < c → n ≤ c → c ≤ maxLen → cs.length ≤ arr.size →
      (∀ j x, cs[j]? = some x → RO w x (arr.getD j undef) (Ss j)) → (∀ j, j < cs.length → ¬ Ss j g) → (∀ i j b, i < cs.length → j < cs.length → i ≠ j → Ss i b → ¬ Ss j b) →
      (∀ b, S b ↔ b = g ∨ ∃ j, j < cs.length ∧ Ss j b) → RO w (.sl n cs) (.slice (some ⟨g, 0, none⟩) n c) S

theorem RO.one {w : World} {x : IV} {v : Value} {S : Nat → Prop} (h : RO w x v S) : v.oneCell' = true := by
  cases h with
  | sc v S hs => cases v <;> simp_all [scalarB, Value.oneCell']
  | _ => rfl
theorem RO.kept {w w' : World} {x : IV} {v : Value} {S : Nat → Prop} (h : RO w x v S) : (∀ b, S b → w'.heap[b]? = w.heap[b]?) → RO w' x v S := by
  induction h with
  | sc v S hs he => intro _; exact .sc v S hs he
  | z a S he => intro _; exact .z a S he
  | sl n c g t arr cs Ss S hg hc hn hm hl _ h1 h2 h3 ih =>
    intro hw
    refine .sl n c g t arr cs Ss S (by rw [hw g ((h3 g).2 (.inl rfl))]; exact hg) hc hn hm hl (fun j x hx => ih j x hx fun b hb => hw b ((h3 b).2 (.inr ⟨j, (List.getElem?_eq_some_iff.1 hx).1, hb⟩))) h1 h2 h3
theorem RO.lt {w : World} {x : IV} {v : Value} {S : Nat → Prop} (h : RO w x v S) : ∀ b, S b → b < w.heap.size := by
  induction h with
  | sc v S hs he => intro b hb; exact (he b hb).elim
  | z a S he => intro b hb; exact (he b hb).elim
  | sl n c g t arr cs Ss S hg hc hn hm hl _ h1 h2 h3 ih =>
    intro b hb
    rcases (h3 b).1 hb with rfl | ⟨j, hj, hb⟩
    · exact (Array.getElem?_eq_some_iff.1 hg).1
    · exact ih j cs[j] (by simp [hj]) b hb
theorem RO.congr {w : World} {x : IV} {v : Value} {S S' : Nat → Prop} (h : RO w x v S) (hS : ∀ b, S b ↔ S' b) : RO w x v S' := by
  have : S = S' := funext fun b => propext (hS b)
  rw [← this]; exact h
theorem cell_row {w : World} {g o : Nat} {vs : Array Value} {t : TypeId} {fr : Nat × Nat} (h : w.heap[g]? = some (.cells vs t fr)) : w.cell? ⟨g, o, none⟩ = vs[o]? := by simp [World.cell?, h]
theorem addr_add_lit (b j : Nat) : (⟨b, 0, none⟩ : Addr).add j = ⟨b, j, none⟩ := by rw [Addr.add_lit]; simp
/-- What belongs to one may be made all's. -/
theorem RO.im {w : World} {ω : Lab} {x : IV} {v : Value} {S : Nat → Prop} (h : RO w x v S) : (∀ b, S b → ω b = .im) → RI w ω x v := by
  induction h with
  | sc v S hs he => intro _; exact .sc v hs
  | z a S he =>
    intro _
    cases a with
    | none => exact .slnil
    | some a => exact .sl 0 0 [] a (fun _ => undef) (fun h => absurd rfl h) (Nat.le_refl _) (by simp [maxLen]) (fun j hj => by simp at hj) (fun j x hx => by simp at hx)
  | sl n c g t arr cs Ss S hg hc hn hm hl _ h1 h2 h3 ih =>
    intro hS
    refine .sl n c cs ⟨g, 0, none⟩ (fun j => arr.getD j undef) (fun _ => hS g ((h3 g).2 (.inl rfl))) hn hm (fun j hj => ?_) fun j x hx => ih j x hx fun b hb => hS b ((h3 b).2 (.inr ⟨j, (List.getElem?_eq_some_iff.1 hx).1, hb⟩))
    rw [addr_add_lit, cell_row hg]
    simp [Array.getD, show j < arr.size by omega]

/-- A cell of a variable: a tree; the nil slice; a slice of a known capacity; a pointer to a cell of a box of the call's own; a pointer to a cell of its own row; the whole of an own row, n elements long; a part of an own row; what stands in cell j of an own row; a map of its own; a function; unknown. -/
inductive Cell where
  | im (x : IV)
  | nl
  | ik (c n : Nat) (cs : List IV)
  | rf (k off : Nat)
  | rv (k len off : Nat)
  | os (k n : Nat)
  | ov (k n off m : Nat)
  | ns (k j : Nat)
  | mp (k : Nat)
  | fn (f : FuncId) (caps : List Cell)
  | bad
  deriving Inhabited

/-- An object of the call's own: a variable in memory; a row that may grow ('own': what its cells lead to is its own as well); a row of a fixed length, all of it its own; a map from keys of a kind to scalars; a block that is never written, and what it holds. -/
inductive Ob where
  | box (t : TypeId) (cs : List Cell)
  | vec (t : TypeId) (esz n : Nat) (cs : List IV) (own : Bool)
  | row (n : Nat) (cs : List IV)
  | map (d : TypeDesc) (f : Value → Option Value)
  | gl (b : Nat) (x : Obj)
  deriving Inhabited
def Ob.len? : Ob → Option Nat
  | .box _ _ => none
  | .vec _ _ n _ _ => some n
  | .row n _ => some n
  | .map _ _ => none
  | .gl _ _ => none

/-- Lists of pairs: the first one with a key counts. -/
def get {α : Type} : List (Nat × α) → Nat → Option α
  | [], _ => none
  | (k, o) :: r, i => if i = k then some o else get r i
def del {α : Type} : List (Nat × α) → Nat → List (Nat × α)
  | [], _ => []
  | (k, o) :: r, i => if i = k then del r i else (k, o) :: del r i
/-- It is turned at its place. -/
def upd {α : Type} : List (Nat × α) → Nat → α → List (Nat × α)
  | [], _, _ => []
  | (k, p) :: r, i, o => if i = k then (k, o) :: r else (k, p) :: upd r i o
abbrev Sto := List (Nat × Ob)

theorem get_nil {α : Type} (i : Nat) : get ([] : List (Nat × α)) i = none := rfl
theorem get_cons {α : Type} (k : Nat) (o : α) (r : List (Nat × α)) (i : Nat) : get ((k, o) :: r) i = if i = k then some o else get r i := rfl
theorem get_append {α : Type} (l r : List (Nat × α)) (i : Nat) : get (l ++ r) i = (get l i).or (get r i) := by
  induction l with
  | nil => rfl
  | cons p l ih =>
    obtain ⟨k, o⟩ := p
    rw [List.cons_append, get_cons, get_cons, ih]
    split <;> rfl
theorem get_del {α : Type} (σ : List (Nat × α)) (i j : Nat) : get (del σ i) j = if j = i then none else get σ j := by
  induction σ with
  | nil => simp [get, del]
  | cons p r ih =>
    obtain ⟨k, o⟩ := p
    by_cases h : i = k
    · subst h
      simp only [del, if_true, ih, get]
      by_cases hj : j = i <;> simp [hj]
    · simp only [del, h, if_false, get, ih]
      by_cases hj : j = k
      · subst hj; simp [Ne.symm h]
      · simp [hj]
theorem get_upd {α : Type} (σ : List (Nat × α)) (i j : Nat) (o : α) (h : (get σ i).isSome = true) : get (upd σ i o) j = if j = i then some o else get σ j := by
  induction σ with
  | nil => simp [get] at h
  | cons p r ih =>
    obtain ⟨k, q⟩ := p
    by_cases hk : i = k
    · subst hk
      simp only [upd, if_true, get]
      by_cases hj : j = i <;> simp [hj]
    · simp only [get, hk, if_false] at h
      simp only [upd, hk, if_false, get, ih h]
      by_cases hj : j = k
      · subst hj; simp [Ne.symm hk]
      · simp [hj]

/-- A part of a row: m elements from cell off on. -/
def OvOk (kv : Value) (off : Nat) (a : Option Addr) (m c : Nat) : Prop :=
  m ≤ c ∧ c ≤ maxLen ∧ (0 < c → ∃ b l c', kv = .slice (some ⟨b, 0, none⟩) l c' ∧ a = some ⟨b, off, none⟩) ∧ (off = 0 → ∃ l, kv = .slice a l c)
/-- How the world bears a cell's value: 'κ' tells each own object's value (a box: its address; a row: its slice). -/
inductive RC (w : World) (ω : Lab) (κ : Nat → Value) (σ : Sto) : Cell → Value → Prop
  | im (x : IV) (v : Value) : RI w ω x v → RC w ω κ σ (.im x) v
  | nl : RC w ω κ σ .nl (.slice none 0 0)
  | ik (c n : Nat) (cs : List IV) (a : Option Addr) : RI w ω (.sl n cs) (.slice a n c) → RC w ω κ σ (.ik c n cs) (.slice a n c)
  | rf (k off b : Nat) : κ k = .pointer (some ⟨b, 0, none⟩) → RC w ω κ σ (.rf k off) (.pointer (some ⟨b, off, none⟩))
  | rv (k len off : Nat) (a : Addr) : (∀ o m, get σ k = some o → o.len? = some m → len ≤ m ∧ (m = len → ∃ b n c, κ k = .slice (some ⟨b, 0, none⟩) n c ∧ a = ⟨b, off, none⟩)) → RC w ω κ σ (.rv k len off) (.pointer (some a))
  | os (k n : Nat) (a : Option Addr) (c : Nat) : n ≤ c → (a = none → c = 0) → (∀ o m, get σ k = some o → o.len? = some m → n ≤ m ∧ (m = n → κ k = .slice a n c)) → RC w ω κ σ (.os k n) (.slice a n c)
  | ov (k n off m : Nat) (a : Option Addr) (c : Nat) : m ≤ c → (a = none → c = 0) → (∀ o l, get σ k = some o → o.len? = some l → n ≤ l ∧ (l = n → OvOk (κ k) off a m c)) → RC w ω κ σ (.ov k n off m) (.slice a m c)
  | ns (k j : Nat) (v : Value) : (∀ o m, get σ k = some o → o.len? = some m → ∃ b n c, κ k = .slice (some ⟨b, 0, none⟩) n c ∧ 0 < c ∧ w.cell? ⟨b, j, none⟩ = some v) → RC w ω κ σ (.ns k j) v
  | mp (k r : Nat) : κ k = .map (some r) → RC w ω κ σ (.mp k) (.map (some r))
  | fn (f : FuncId) (caps : List Cell) (vs : List Value) : vs.length = caps.length → (∀ j x, caps[j]? = some x → RC w ω κ σ x (vs.getD j undef)) → RC w ω κ σ (.fn f caps) (.func (.func f) #[] vs.toArray)
  | bad (v : Value) : RC w ω κ σ .bad v

def All2 {α β : Type} (R : α → β → Prop) (xs : List α) (ys : List β) : Prop := xs.length = ys.length ∧ ∀ (j : Nat) (x : α) (y : β), xs[j]? = some x → ys[j]? = some y → R x y

/-- A variable's value: one cell; several; the results of a call. -/
inductive TV where
  | c (x : Cell)
  | ag (cs : List Cell)
  | tp (ts : List TV)
  deriving Inhabited

def RT1 (w : World) (ω : Lab) (κ : Nat → Value) (σ : Sto) : TV → Value → Prop
  | .c x, v => RC w ω κ σ x v
  | .ag cs, v => ∃ vs : List Value, v = .agg vs.toArray ∧ All2 (RC w ω κ σ) cs vs ∧ ∀ u ∈ vs, u.oneCell' = true
  | .tp _, _ => False
def RT (w : World) (ω : Lab) (κ : Nat → Value) (σ : Sto) : TV → Value → Prop
  | .tp ts, v => ∃ vs : List Value, v = .tuple vs.toArray ∧ All2 (RT1 w ω κ σ) ts vs
  | x, v => RT1 w ω κ σ x v

/-- The row of a slice: its cells. -/
def RowOk (w : World) (t : TypeId) (e : Nat) (v : Value) (n : Nat) (xs : List Value) : Prop :=
  xs.length = n * e ∧ ((n = 0 ∧ ∃ a, v = .slice a 0 0) ∨ ∃ g cap cur, v = .slice (some ⟨g, 0, none⟩) n cap ∧ 0 < cap ∧ w.heap[g]? = some (.cells cur t (0, 0)) ∧ n ≤ cap ∧ cap ≤ maxLen ∧ cur.size = cap * e ∧ cur.toList.take (n * e) = xs)
/-- The block of a slice that has room. -/
def rowB : Value → Option Nat
  | .slice (some a) _ (_ + 1) => some a.block
  | _ => none
/-- The trees that are object k's own. -/
def OwnC (w : World) (ω : Lab) (k : Nat) (g : Option Nat) (cs : List IV) (xs : List Value) : Prop :=
  cs.length = xs.length ∧ ∃ Ss : Nat → Nat → Prop, (∀ j x v, cs[j]? = some x → xs[j]? = some v → RO w x v (Ss j)) ∧
    (∀ i j b, i < cs.length → j < cs.length → i ≠ j → Ss i b → ¬ Ss j b) ∧ ∀ j b, j < cs.length → Ss j b → ω b = .ob k ∧ some b ≠ g
def CellsOk (w : World) (ω : Lab) (k : Nat) (g : Option Nat) (own : Bool) (cs : List IV) (xs : List Value) : Prop :=
  if own then OwnC w ω k g cs xs else All2 (RI w ω) cs xs

mutual
def Cell.has (k : Nat) : Cell → Bool
  | .rf j _ => j == k
  | .rv j _ _ => j == k
  | .os j _ => j == k
  | .ov j _ _ _ => j == k
  | .ns j _ => j == k
  | .mp j => j == k
  | .fn _ caps => hasL k caps
  | _ => false
def hasL (k : Nat) : List Cell → Bool
  | [] => false
  | c :: r => c.has k || hasL k r
end
mutual
/-- Does it tell what stands in a cell of row k? -/
def Cell.hasN (k : Nat) : Cell → Bool
  | .ns j _ => j == k
  | .fn _ caps => hasNL k caps
  | _ => false
def hasNL (k : Nat) : List Cell → Bool
  | [] => false
  | c :: r => c.hasN k || hasNL k r
end
mutual
def Cell.anyN : Cell → Bool
  | .ns _ _ => true
  | .fn _ caps => anyNL caps
  | _ => false
def anyNL : List Cell → Bool
  | [] => false
  | c :: r => c.anyN || anyNL r
end

/-- A map's entries tell what it holds. -/
def MapOk (d : TypeDesc) (es : Array MapEntry) (f : Value → Option Value) : Prop :=
  (es.toList.map (·.key)).Nodup ∧ (∀ e ∈ es.toList, MapKept.IsKey d e.key ∧ scalarB e.val = true) ∧ ∀ v x, f v = some x ↔ ∃ e ∈ es.toList, e.key = v ∧ e.val = x
/-- How the world bears an object. -/
def ObOk (w : World) (ω : Lab) (κ : Nat → Value) (σ : Sto) (k : Nat) : Ob → Prop
  | .box t cs => ∃ b vs, κ k = .pointer (some ⟨b, 0, none⟩) ∧ ω b = .ob k ∧ w.heap[b]? = some (.cells vs t (0, 0)) ∧ All2 (RC w ω κ σ) cs vs.toList ∧ (∀ u ∈ vs.toList, u.oneCell' = true) ∧ anyNL cs = false
  | .vec t e n cs own => 0 < e ∧ ∃ xs, RowOk w t e (κ k) n xs ∧ (∀ b, rowB (κ k) = some b → ω b = .ob k) ∧ CellsOk w ω k (rowB (κ k)) own cs xs
  | .row n cs => ∃ S, RO w (.sl n cs) (κ k) S ∧ ∀ b, S b → ω b = .ob k
  | .map d f => ∃ r es clock, κ k = .map (some r) ∧ ω r = .ob k ∧ w.heap[r]? = some (.map es clock) ∧ MapOk d es f
  | .gl b x => ω b = .im ∧ w.heap[b]? = some x
structure RS (w : World) (ω : Lab) (κ : Nat → Value) (σ : Sto) : Prop where
  ob : ∀ k o, get σ k = some o → ObOk w ω κ σ k o
  dom : ∀ b, ω b ≠ .no → b < w.heap.size

/-- What may have become of a world. -/
structure Turn (w : World) (ω : Lab) (w' : World) (ω' : Lab) : Prop where
  os : w'.os = w.os
  tape : w'.tape = w.tape
  output : w'.output = w.output
  size : w.heap.size ≤ w'.heap.size
  block : ∀ b, b < w.heap.size → (∀ k, ω b ≠ .ob k) → w'.heap[b]? = w.heap[b]?
  im : ∀ b, ω b = .im → ω' b = .im
  no : ∀ b, b < w.heap.size → ω b = .no → ω' b = .no
theorem Turn.refl (w : World) (ω : Lab) : Turn w ω w ω := ⟨rfl, rfl, rfl, Nat.le_refl _, fun _ _ _ => rfl, fun _ h => h, fun _ _ h => h⟩
theorem Turn.trans {w w' w'' : World} {ω ω' ω'' : Lab} (h : Turn w ω w' ω') (h' : Turn w' ω' w'' ω'') : Turn w ω w'' ω'' := by
  refine ⟨h'.os.trans h.os, h'.tape.trans h.tape, h'.output.trans h.output, Nat.le_trans h.size h'.size, fun b hb hk => ?_, fun b hb => h'.im b (h.im b hb), fun b hb hn => h'.no b (Nat.lt_of_lt_of_le hb h.size) (h.no b hb hn)⟩
  rw [h'.block b (Nat.lt_of_lt_of_le hb h.size) fun k hk' => ?_, h.block b hb hk]
  cases hw : ω b with
  | no => rw [h.no b hb hw] at hk'; cases hk'
  | im => rw [h.im b hw] at hk'; cases hk'
  | ob k => exact hk k hw

/-- Does a value stay where it is? -/
def stay : Value → Bool
  | .slice _ _ _ => false
  | _ => true
/-- What is known of key k goes over. -/
def KeyOk (κ : Nat → Value) (σ : Sto) (κ' : Nat → Value) (σ' : Sto) (k : Nat) : Prop :=
  (stay (κ k) = true → κ' k = κ k) ∧
  ∀ o' m', get σ' k = some o' → o'.len? = some m' → ∃ o m, get σ k = some o ∧ o.len? = some m ∧ m ≤ m' ∧ (m = m' → κ' k = κ k)
theorem KeyOk.refl (κ : Nat → Value) (σ : Sto) (k : Nat) : KeyOk κ σ κ σ k := ⟨fun _ => rfl, fun o m h h' => ⟨o, m, h, h', Nat.le_refl _, fun _ => rfl⟩⟩
theorem KeyOk.trans {κ κ' κ'' : Nat → Value} {σ σ' σ'' : Sto} {k : Nat} (h : KeyOk κ σ κ' σ' k) (h' : KeyOk κ' σ' κ'' σ'' k) : KeyOk κ σ κ'' σ'' k := by
  refine ⟨fun hs => ?_, fun o m ho hm => ?_⟩
  · have e := h.1 hs
    rw [h'.1 (by rw [e]; exact hs), e]
  · obtain ⟨o1, m1, h1, h2, h3, h4⟩ := h'.2 o m ho hm
    obtain ⟨o2, m2, g1, g2, g3, g4⟩ := h.2 o1 m1 h1 h2
    exact ⟨o2, m2, g1, g2, by omega, fun e => by rw [h4 (by omega), g4 (by omega)]⟩
/-- The row k has not been written. -/
def NestOk (w : World) (κ : Nat → Value) (σ : Sto) (w' : World) (κ' : Nat → Value) (σ' : Sto) (k : Nat) : Prop :=
  ∀ o' m', get σ' k = some o' → o'.len? = some m' → (∃ o m, get σ k = some o ∧ o.len? = some m) ∧ κ' k = κ k ∧ ∀ b n c, κ k = .slice (some ⟨b, 0, none⟩) n c → 0 < c → w'.heap[b]? = w.heap[b]?

theorem hasL_mem {k : Nat} {l : List Cell} {j : Nat} {x : Cell} (h : l[j]? = some x) (hx : x.has k = true) : hasL k l = true := by
  induction l generalizing j with
  | nil => simp at h
  | cons c r ih =>
    cases j with
    | zero => simp at h; subst h; simp [hasL, hx]
    | succ j => simp at h; simp [hasL, ih h]
theorem hasNL_mem {k : Nat} {l : List Cell} {j : Nat} {x : Cell} (h : l[j]? = some x) (hx : x.hasN k = true) : hasNL k l = true := by
  induction l generalizing j with
  | nil => simp at h
  | cons c r ih =>
    cases j with
    | zero => simp at h; subst h; simp [hasNL, hx]
    | succ j => simp at h; simp [hasNL, ih h]
theorem hasL_of_mem {k : Nat} {l : List Cell} {x : Cell} (h : x ∈ l) (hx : x.has k = true) : hasL k l = true := by
  obtain ⟨j, hj⟩ := List.getElem?_of_mem h
  exact hasL_mem hj hx
theorem hasNL_of_mem {k : Nat} {l : List Cell} {x : Cell} (h : x ∈ l) (hx : x.hasN k = true) : hasNL k l = true := by
  obtain ⟨j, hj⟩ := List.getElem?_of_mem h
  exact hasNL_mem hj hx
theorem anyN_has (k : Nat) (x : Cell) : x.anyN = false → x.hasN k = false := by
  refine Cell.rec (motive_1 := fun x => x.anyN = false → x.hasN k = false) (motive_2 := fun l => anyNL l = false → hasNL k l = false) ?_ ?_ ?_ ?_ ?_ ?_ ?_ ?_ ?_ ?_ ?_ ?_ ?_ x
  all_goals first | (intros; rfl) | skip
  · intro k j h; cases h
  · intro f caps ih h; exact ih h
  · intro c r h1 h2 h
    simp only [anyNL, Bool.or_eq_false_iff] at h
    simp [hasNL, h1 h.1, h2 h.2]
theorem anyNL_mem {l : List Cell} (h : anyNL l = false) : ∀ c ∈ l, c.anyN = false := by
  induction l with
  | nil => simp
  | cons c r ih =>
    simp only [anyNL, Bool.or_eq_false_iff] at h
    intro d hd
    rcases List.mem_cons.1 hd with rfl | hd
    · exact h.1
    · exact ih h.2 d hd

/-- How what is known may go over. -/
structure Over (w : World) (ω : Lab) (κ : Nat → Value) (σ : Sto) (w' : World) (ω' : Lab) (κ' : Nat → Value) (σ' : Sto) (hk hn : Nat → Prop) : Prop where
  im : ∀ b, ω b = .im → ω' b = .im ∧ w'.heap[b]? = w.heap[b]?
  key : ∀ k, hk k → KeyOk κ σ κ' σ' k
  nest : ∀ k, hn k → NestOk w κ σ w' κ' σ' k

theorem RC.step {w w' : World} {ω ω' : Lab} {κ κ' : Nat → Value} {σ σ' : Sto} {x : Cell} {v : Value}
    (h : RC w ω κ σ x v) : Over w ω κ σ w' ω' κ' σ' (fun k => x.has k = true) (fun k => x.hasN k = true) → RC w' ω' κ' σ' x v := by
  induction h with
  | im x v h => intro ho; exact .im x v (h.kept ho.im)
  | nl => intro ho; exact .nl
  | ik c n cs a h => intro ho; exact .ik c n cs a (h.kept ho.im)
  | rf k off b h =>
    intro ho
    have := (ho.key k (by simp [Cell.has])).1 (by rw [h]; rfl)
    exact .rf k off b (this.trans h)
  | rv k len off a h =>
    intro ho
    refine .rv k len off a fun o' m' hg hm => ?_
    obtain ⟨o, m, h1, h2, h3, h4⟩ := (ho.key k (by simp [Cell.has])).2 o' m' hg hm
    obtain ⟨h5, h6⟩ := h o m h1 h2
    refine ⟨by omega, fun hl => ?_⟩
    rw [h4 (by omega)]
    exact h6 (by omega)
  | os k n a c hc hz h =>
    intro ho
    refine .os k n a c hc hz fun o' m' hg hm => ?_
    obtain ⟨o, m, h1, h2, h3, h4⟩ := (ho.key k (by simp [Cell.has])).2 o' m' hg hm
    obtain ⟨h5, h6⟩ := h o m h1 h2
    refine ⟨by omega, fun hl => ?_⟩
    rw [h4 (by omega)]
    exact h6 (by omega)
  | ov k n off l a c hc hz h =>
    intro ho
    refine .ov k n off l a c hc hz fun o' m' hg hm => ?_
    obtain ⟨o, m, h1, h2, h3, h4⟩ := (ho.key k (by simp [Cell.has])).2 o' m' hg hm
    obtain ⟨h5, h6⟩ := h o m h1 h2
    refine ⟨by omega, fun hl => ?_⟩
    rw [h4 (by omega)]
    exact h6 (by omega)
  | ns k j v h =>
    intro ho
    refine .ns k j v fun o' m' hg hm => ?_
    obtain ⟨⟨o, m, h1, h2⟩, h3, h4⟩ := ho.nest k (by simp [Cell.hasN]) o' m' hg hm
    obtain ⟨b, n, c, h5, h6, h7⟩ := h o m h1 h2
    refine ⟨b, n, c, h3.trans h5, h6, ?_⟩
    rw [World.cell?_of_block (w := w) (h4 b n c h5 h6)]; exact h7
  | mp k r h =>
    intro ho
    have := (ho.key k (by simp [Cell.has])).1 (by rw [h]; rfl)
    exact .mp k r (this.trans h)
  | fn f caps vs hl h ih =>
    intro ho
    exact .fn f caps vs hl fun j x hx => ih j x hx ⟨ho.im, fun k hkk => ho.key k (by simp [Cell.has, hasL_mem hx hkk]), fun k hkk => ho.nest k (by simp [Cell.hasN, hasNL_mem hx hkk])⟩
  | bad v => intro _; exact .bad v

theorem Over.sub {w w' : World} {ω ω' : Lab} {κ κ' : Nat → Value} {σ σ' : Sto} {hk hn hk' hn' : Nat → Prop} (h : Over w ω κ σ w' ω' κ' σ' hk hn) (h1 : ∀ k, hk' k → hk k) (h2 : ∀ k, hn' k → hn k) : Over w ω κ σ w' ω' κ' σ' hk' hn' :=
  ⟨h.im, fun k hk => h.key k (h1 k hk), fun k hk => h.nest k (h2 k hk)⟩

theorem All2.imp {α β : Type} {R R' : α → β → Prop} {xs : List α} {ys : List β} (h : All2 R xs ys) (hi : ∀ x y, x ∈ xs → R x y → R' x y) : All2 R' xs ys :=
  ⟨h.1, fun j x y hx hy => hi x y (List.mem_of_getElem? hx) (h.2 j x y hx hy)⟩
theorem All2.set {α β : Type} {R : α → β → Prop} {xs : List α} {ys : List β} (h : All2 R xs ys) (i : Nat) {x : α} {y : β} (hxy : R x y) : All2 R (xs.set i x) (ys.set i y) := by
  refine ⟨by simp [h.1], fun j u v hu hv => ?_⟩
  rw [List.getElem?_set] at hu hv
  by_cases hij : i = j
  · subst hij
    by_cases hl : i < xs.length
    · have hl' : i < ys.length := h.1 ▸ hl
      simp [hl] at hu
      simp [hl'] at hv
      subst hu; subst hv; exact hxy
    · simp [hl] at hu
  · simp [hij] at hu hv
    exact h.2 j u v hu hv
theorem All2.get {α β : Type} {R : α → β → Prop} {xs : List α} {ys : List β} (h : All2 R xs ys) {j : Nat} {x : α} (hx : xs[j]? = some x) : ∃ y, ys[j]? = some y ∧ R x y := by
  have hl : j < ys.length := by rw [← h.1]; exact (List.getElem?_eq_some_iff.1 hx).1
  exact ⟨ys[j], by simp [hl], h.2 j x _ hx (by simp [hl])⟩
theorem All2.append {α β : Type} {R : α → β → Prop} {xs xs' : List α} {ys ys' : List β} (h : All2 R xs ys) (h' : All2 R xs' ys') : All2 R (xs ++ xs') (ys ++ ys') := by
  refine ⟨by simp [h.1, h'.1], fun j x y hx hy => ?_⟩
  by_cases hj : j < xs.length
  · rw [List.getElem?_append_left hj] at hx
    rw [List.getElem?_append_left (by rw [← h.1]; exact hj)] at hy
    exact h.2 j x y hx hy
  · rw [List.getElem?_append_right (by omega)] at hx
    rw [List.getElem?_append_right (by rw [← h.1]; omega)] at hy
    rw [h.1] at hx
    exact h'.2 _ x y hx hy

def TV.has (k : Nat) : TV → Bool
  | .c x => x.has k
  | .ag cs => hasL k cs
  | .tp ts => ts.any fun
    | .c x => x.has k
    | .ag cs => hasL k cs
    | .tp _ => false
def TV.hasN (k : Nat) : TV → Bool
  | .c x => x.hasN k
  | .ag cs => hasNL k cs
  | .tp ts => ts.any fun
    | .c x => x.hasN k
    | .ag cs => hasNL k cs
    | .tp _ => false
theorem RT1.step {w w' : World} {ω ω' : Lab} {κ κ' : Nat → Value} {σ σ' : Sto} {x : TV} {v : Value}
    (h : RT1 w ω κ σ x v) (ho : Over w ω κ σ w' ω' κ' σ' (fun k => x.has k = true) (fun k => x.hasN k = true)) : RT1 w' ω' κ' σ' x v := by
  cases x with
  | c x => exact RC.step h ho
  | ag cs =>
    obtain ⟨vs, rfl, h1, h2⟩ := h
    exact ⟨vs, rfl, h1.imp fun x y hx hxy => hxy.step (ho.sub (fun k hkk => hasL_of_mem hx hkk) fun k hkk => hasNL_of_mem hx hkk), h2⟩
  | tp ts => exact h.elim
theorem RT.step {w w' : World} {ω ω' : Lab} {κ κ' : Nat → Value} {σ σ' : Sto} {x : TV} {v : Value}
    (h : RT w ω κ σ x v) (ho : Over w ω κ σ w' ω' κ' σ' (fun k => x.has k = true) (fun k => x.hasN k = true)) : RT w' ω' κ' σ' x v := by
  cases x with
  | c x => exact RC.step h ho
  | ag cs => exact RT1.step (x := .ag cs) h ho
  | tp ts =>
    obtain ⟨vs, rfl, h1⟩ := h
    refine ⟨vs, rfl, h1.imp fun x y hx hxy => RT1.step hxy (ho.sub (fun k hkk => ?_) fun k hkk => ?_)⟩
    · simp only [TV.has, List.any_eq_true]
      refine ⟨x, hx, ?_⟩
      cases x <;> first | exact hkk | exact hxy.elim
    · simp only [TV.hasN, List.any_eq_true]
      refine ⟨x, hx, ?_⟩
      cases x <;> first | exact hkk | exact hxy.elim

/-- A frame's variables and objects. -/
structure St where
  N : Nat
  E : List (Nat × TV)
  σ : Sto
def EnvOk (w : World) (ω : Lab) (κ : Nat → Value) (σ : Sto) (E : List (Nat × TV)) (tmps : Array Value) : Prop :=
  ∀ t x, get E t = some x → t < tmps.size ∧ RT w ω κ σ x (tmps.getD t undef)
/-- How the call began. -/
structure Base where
  w : World
  ω : Lab
  κ : Nat → Value
  σ : Sto
structure Rel (β : Base) (ω : Lab) (κ : Nat → Value) (s : St) (a : Act) (w : World) : Prop where
  turn : Turn β.w β.ω w ω
  keys : ∀ k, (get β.σ k).isSome = true → KeyOk β.κ β.σ κ s.σ k
  odd : ∀ k, (get β.σ k).isSome = true → k % 2 = 1
  defers : a.defers = []
  size : a.tmps.size = s.N
  env : EnvOk w ω κ s.σ s.E a.tmps
  rs : RS w ω κ s.σ
def RelE (β : Base) (s : St) (a : Act) (w : World) : Prop := ∃ ω κ, Rel β ω κ s a w

theorem OwnC.kept {w w' : World} {ω ω' : Lab} {k : Nat} {g : Option Nat} {cs : List IV} {xs : List Value} (h : OwnC w ω k g cs xs) (ho : ∀ b, ω b = .ob k → ω' b = .ob k ∧ w'.heap[b]? = w.heap[b]?) : OwnC w' ω' k g cs xs := by
  obtain ⟨h0, Ss, h1, h2, h3⟩ := h
  exact ⟨h0, Ss, fun j x v hx hv => (h1 j x v hx hv).kept fun b hb => (ho b (h3 j b (List.getElem?_eq_some_iff.1 hx).1 hb).1).2, h2, fun j b hj hb => ⟨(ho b (h3 j b hj hb).1).1, (h3 j b hj hb).2⟩⟩
theorem rowB_some {a : Addr} {n c : Nat} (h : 0 < c) : rowB (.slice (some a) n c) = some a.block := by
  cases c with
  | zero => omega
  | succ c => rfl
theorem RowOk.kept {w w' : World} {t : TypeId} {e n : Nat} {v : Value} {xs : List Value} (h : RowOk w t e v n xs) (hb : ∀ b, rowB v = some b → w'.heap[b]? = w.heap[b]?) : RowOk w' t e v n xs := by
  refine ⟨h.1, ?_⟩
  rcases h.2 with h | ⟨g, cap, cur, rfl, hc, hg, rest⟩
  · exact .inl h
  · exact .inr ⟨g, cap, cur, rfl, hc, by rw [hb g (rowB_some hc)]; exact hg, rest⟩
theorem RowOk.lt {w : World} {t : TypeId} {e n : Nat} {v : Value} {xs : List Value} (h : RowOk w t e v n xs) {b : Nat} (hb : rowB v = some b) : b < w.heap.size := by
  rcases h.2 with ⟨_, a, rfl⟩ | ⟨g, cap, cur, rfl, hc, hg, rest⟩
  · cases a <;> cases hb
  · rw [rowB_some hc] at hb
    obtain rfl := Option.some.inj hb
    exact (Array.getElem?_eq_some_iff.1 hg).1
theorem RowOk.slice {w : World} {t : TypeId} {e n : Nat} {v : Value} {xs : List Value} (h : RowOk w t e v n xs) : ∃ a c, v = .slice a n c ∧ n ≤ c ∧ c ≤ maxLen ∧ (a = none → c = 0) := by
  rcases h.2 with ⟨rfl, a, rfl⟩ | ⟨g, cap, cur, rfl, hc, hg, h1, h2, rest⟩
  · exact ⟨a, 0, rfl, Nat.le_refl _, by simp [maxLen], fun _ => rfl⟩
  · exact ⟨_, _, rfl, h1, h2, fun h => by cases h⟩
/-- The cells of a row, where it lies. -/
theorem RowOk.cells {w : World} {t : TypeId} {e n : Nat} {v : Value} {xs : List Value} (h : RowOk w t e v n xs) : ∀ (a : Addr) m c, v = .slice (some a) m c → ∀ j u, xs[j]? = some u → w.cell? (a.add j) = some u := by
  intro a m c hv j u hu
  have hj := (List.getElem?_eq_some_iff.1 hu).1
  rcases h.2 with ⟨rfl, _⟩ | ⟨g, cap, cur, rfl, hc, hg, h1, h2, h3, h4⟩
  · have := h.1; simp at this; subst this; simp at hj
  · injection hv with q1 q2 q3
    obtain rfl := Option.some.inj q1
    rw [addr_add_lit, cell_row hg]
    rw [← h4, List.getElem?_take_of_lt (by rw [← h.1]; exact hj)] at hu
    simpa using hu

theorem ObOk.step {w w' : World} {ω ω' : Lab} {κ κ' : Nat → Value} {σ σ' : Sto} {k : Nat} {o : Ob} (h : ObOk w ω κ σ k o) (hκ : κ' k = κ k) (ho : ∀ b, ω b = .ob k → ω' b = .ob k ∧ w'.heap[b]? = w.heap[b]?)
    (him : ∀ b, ω b = .im → ω' b = .im ∧ w'.heap[b]? = w.heap[b]?) (hkey : ∀ t cs, o = .box t cs → ∀ i, hasL i cs = true → KeyOk κ σ κ' σ' i) : ObOk w' ω' κ' σ' k o := by
  cases o with
  | box t cs =>
    obtain ⟨b, vs, h1, h2, h3, h4, h5, h6⟩ := h
    refine ⟨b, vs, hκ.trans h1, (ho b h2).1, by rw [(ho b h2).2]; exact h3, h4.imp fun x y hx hxy => hxy.step ⟨him, fun i hi => hkey t cs rfl i (hasL_of_mem hx hi), fun i hi => ?_⟩, h5, h6⟩
    rw [anyN_has i x (anyNL_mem h6 x hx)] at hi; cases hi
  | vec t e n cs own =>
    obtain ⟨h0, xs, h1, h2, h3⟩ := h
    refine ⟨h0, xs, ?_, fun b hb => ?_, ?_⟩
    · rw [hκ]; exact h1.kept fun b hb => (ho b (h2 b hb)).2
    · rw [hκ] at hb; exact (ho b (h2 b hb)).1
    · rw [hκ]
      unfold CellsOk at h3 ⊢
      split
      · rename_i hown; rw [if_pos hown] at h3; exact h3.kept ho
      · rename_i hown; rw [if_neg hown] at h3; exact h3.imp fun x y _ hxy => hxy.kept him
  | row n cs =>
    obtain ⟨S, h1, h2⟩ := h
    exact ⟨S, by rw [hκ]; exact h1.kept fun b hb => (ho b (h2 b hb)).2, fun b hb => (ho b (h2 b hb)).1⟩
  | map d f =>
    obtain ⟨r, es, clock, h1, h2, h3, h4⟩ := h
    exact ⟨r, es, clock, hκ.trans h1, (ho r h2).1, by rw [(ho r h2).2]; exact h3, h4⟩
  | gl b x => exact ⟨(him b h.1).1, by rw [(him b h.1).2]; exact h.2⟩
end Go.VC
/- Operations that change no memory: what they come to over abstract values, and that the machine agrees. -/
set_option linter.unusedSimpArgs false
set_option linter.unusedVariables false
namespace Go.VC
open Go Go.RowKit
abbrev Env := List (Nat × TV)

def ofV : Value → Option TV
  | .slice none 0 0 => some (.c .nl)
  | v => if scalarB v then some (.c (.im (.sc v))) else none
def opd (E : Env) : Operand → Option TV
  | .tmp t => get E t
  | .const v => ofV v
  | .func f => some (.c (.im (.fn f [])))
  | .global _ => none

section
variable {w : World} {ω : Lab} {κ : Nat → Value} {σ : Sto} {E : Env} {a : Act}
theorem ofV_ok {v : Value} {r : TV} (h : ofV v = some r) : RT w ω κ σ r v := by
  unfold ofV at h
  split at h
  · obtain rfl := Option.some.inj h; exact .nl
  · split at h
    · rename_i hs; obtain rfl := Option.some.inj h; exact .im _ _ (.sc _ hs)
    · cases h
theorem opd_ok (hE : EnvOk w ω κ σ E a.tmps) {x : Operand} {r : TV} (h : opd E x = some r) : RT w ω κ σ r (a.eval x) := by
  cases x with
  | tmp t => exact (hE t r h).2
  | const v => exact ofV_ok h
  | func f => obtain rfl := Option.some.inj h; exact .im _ _ (.fn f [] [] rfl (by simp))
  | global g => cases h

def aggB (P : Program) (t : TypeId) : Bool := match P.underlying t with | some (.struct _) | some (.array _ _) => true | _ => false
def szOf (P : Program) (t : TypeId) : Option Nat := if (P.underlying t).isSome then (P.info? t).map (·.size) else none

/-- The part of a value of n cells from cell off on. -/
def sub (agg : Bool) (cs : List Cell) (off n : Nat) : Option TV :=
  if agg then (if off + n ≤ cs.length then some (.ag ((cs.drop off).take n)) else none) else (cs[off]?).map .c

/-- A cell of an own row. -/
def ownCell (k j : Nat) : IV → Cell
  | .sc v => .im (.sc v)
  | _ => .ns k j
def ownCells (k j : Nat) : List IV → List Cell
  | [] => []
  | x :: r => ownCell k j x :: ownCells k (j + 1) r
theorem ownCells_get (k : Nat) : ∀ (cs : List IV) (j i : Nat), (ownCells k j cs)[i]? = (cs[i]?).map (ownCell k (j + i))
  | [], j, i => by simp [ownCells]
  | x :: r, j, 0 => by simp [ownCells]
  | x :: r, j, i + 1 => by
    rw [ownCells, List.getElem?_cons_succ, List.getElem?_cons_succ, ownCells_get k r (j + 1) i]
    congr 2; omega
/-- The cells that a pointer leads to, and where it stands in them. -/
def ptr (σ : Sto) : Cell → Option (List Cell × Nat)
  | .rf k off => match get σ k with | some (.box _ cs) => some (cs, off) | _ => none
  | .rv k len off => match get σ k with
    | some (.vec _ _ m cs own) => if m = len then some (if own then ownCells k 0 cs else cs.map .im, off) else none
    | some (.row m cs) => if m = len then some (ownCells k 0 cs, off) else none
    | _ => none
  | .im (.pt cs) => some (cs.map .im, 0)
  | _ => none

theorem RO_sc {v u : Value} {S : Nat → Prop} (h : RO w (.sc v) u S) : u = v ∧ scalarB v = true := by
  cases h with | sc _ _ h => exact ⟨rfl, h⟩
/-- A row's value, its cells, one by one. -/
theorem row_cells (hS : RS w ω κ σ) {k m : Nat} {o : Ob} (hg : get σ k = some o) (hm : o.len? = some m) {b n c : Nat} (hk : κ k = .slice (some ⟨b, 0, none⟩) n c) (hc0 : 0 < c) :
    ∀ cs own, (o = .row m cs ∧ own = true ∨ ∃ t e, o = .vec t e m cs own) → ∀ j x, (if own then ownCells k 0 cs else cs.map .im)[j]? = some x → ∃ u, w.cell? ⟨b, j, none⟩ = some u ∧ RC w ω κ σ x u ∧ u.oneCell' = true := by
  intro cs own ho j x hx
  have hown : own = true → (∃ y, cs[j]? = some y ∧ x = ownCell k j y) := fun h => by
    rw [if_pos h, ownCells_get] at hx
    obtain ⟨y, hy, rfl⟩ := Option.map_eq_some_iff.1 hx
    exact ⟨y, hy, by simp⟩
  have hout : ∀ y u S, RO w y u S → w.cell? ⟨b, j, none⟩ = some u → RC w ω κ σ (ownCell k j y) u := fun y u S hr hc => by
    have hns : RC w ω κ σ (.ns k j) u := .ns k j u fun o' m' ho' hm' => ⟨b, n, c, hk, hc0, hc⟩
    cases y with
    | sc v =>
      obtain ⟨rfl, h⟩ := RO_sc hr
      exact .im _ _ (.sc _ h)
    | _ => exact hns
  have h := hS.ob k o hg
  rcases ho with ⟨rfl, rfl⟩ | ⟨t, e, rfl⟩
  · obtain ⟨S, h1, h2⟩ := h
    obtain ⟨y, hy, rfl⟩ := hown rfl
    rw [hk] at h1
    cases h1 with
    | z => simp at hy
    | sl _ _ _ t arr _ Ss _ h3 _ h4 h5 h6 h7 =>
      have hj := (List.getElem?_eq_some_iff.1 hy).1
      have hc : w.cell? ⟨b, j, none⟩ = some (arr.getD j undef) := by
        rw [cell_row h3]; simp [Array.getD, show j < arr.size by omega]
      exact ⟨_, hc, hout y _ _ (h7 j y hy) hc, (h7 j y hy).one⟩
  · obtain ⟨h0, xs, h1, h2, h3⟩ := h
    have hcell := h1.cells _ _ _ hk
    cases own with
    | false =>
      have h3 : All2 (RI w ω) cs xs := h3
      simp only [Bool.false_eq_true, if_false, List.getElem?_map] at hx
      obtain ⟨y, hy, rfl⟩ := Option.map_eq_some_iff.1 hx
      obtain ⟨u, hu, hr⟩ := h3.get hy
      have := hcell j u hu
      rw [addr_add_lit] at this
      exact ⟨u, this, .im _ _ hr, hr.one⟩
    | true =>
      have h3 : OwnC w ω k (rowB (κ k)) cs xs := h3
      obtain ⟨y, hy, rfl⟩ := hown rfl
      obtain ⟨h4, Ss, h5, _⟩ := h3
      obtain ⟨u, hu⟩ : ∃ u, xs[j]? = some u := ⟨xs[j]'(by rw [← h4]; exact (List.getElem?_eq_some_iff.1 hy).1), by simp⟩
      have := hcell j u hu
      rw [addr_add_lit] at this
      exact ⟨u, this, hout y u _ (h5 j y u hy hu) this, (h5 j y u hy hu).one⟩

theorem ownCells_len (k : Nat) : ∀ (cs : List IV) (j : Nat), (ownCells k j cs).length = cs.length
  | [], _ => rfl
  | _ :: r, j => by rw [ownCells, List.length_cons, List.length_cons, ownCells_len k r]
theorem rv_cap (hS : RS w ω κ σ) {k m : Nat} {o : Ob} (hg : get σ k = some o) (hm : o.len? = some m) {b n c : Nat} (hk : κ k = .slice (some ⟨b, 0, none⟩) n c) {own : Bool} {cs : List IV}
    (hl : 0 < (if own then ownCells k 0 cs else cs.map .im).length) : ∀ cs' own', cs' = cs → own' = own → (o = .row m cs ∧ own = true ∨ ∃ t e, o = .vec t e m cs own) → 0 < c := by
  intro _ _ _ _ ho
  have hl : 0 < cs.length := by
    cases own with
    | true => simpa [ownCells_len] using hl
    | false => simpa using hl
  have h := hS.ob k o hg
  rcases ho with ⟨rfl, rfl⟩ | ⟨t, e, rfl⟩
  · obtain ⟨S, h1, _⟩ := h
    rw [hk] at h1
    cases h1 with
    | z => simp [ownCells] at hl
    | sl _ _ _ _ _ _ _ _ _ hc => exact hc
  · obtain ⟨h0, xs, h1, h2, h3⟩ := h
    have hlx : cs.length = xs.length := by cases own <;> exact h3.1
    rcases h1.2 with ⟨h4, a, hv⟩ | ⟨g, cap, cur, hv, hc, _⟩
    · have := h1.1; rw [h4] at this; omega
    · rw [hk] at hv
      injection hv with _ _ q
      omega
theorem ptr_ok (hS : RS w ω κ σ) {x : Cell} {v : Value} {cs : List Cell} {off : Nat} (h : ptr σ x = some (cs, off)) (hx : RC w ω κ σ x v) :
    ∃ a, v = .pointer (some a) ∧ ∀ j c, cs[off + j]? = some c → ∃ u, w.cell? (a.add j) = some u ∧ RC w ω κ σ c u ∧ u.oneCell' = true := by
  unfold ptr at h
  split at h
  · rename_i k off'
    split at h
    · rename_i t cs' hg
      obtain ⟨rfl, rfl⟩ := Prod.mk.inj (Option.some.inj h)
      obtain ⟨b, vs, h1, _, h3, h4, h5, _⟩ := hS.ob k _ hg
      cases hx with
      | rf _ _ b' hb' =>
        have : b = b' := by rw [h1] at hb'; simpa using hb'
        subst this
        refine ⟨_, rfl, fun j c hc => ?_⟩
        obtain ⟨u, hu, hr⟩ := h4.get hc
        refine ⟨u, ?_, hr, h5 u (List.mem_of_getElem? hu)⟩
        rw [Addr.add_lit, cell_row h3]
        simpa using hu
    · cases h
  · rename_i k len off'
    split at h
    · rename_i t e m cs' own hg
      split at h
      · rename_i hl
        obtain ⟨rfl, rfl⟩ := Prod.mk.inj (Option.some.inj h)
        cases hx with
        | rv _ _ _ a ha =>
          obtain ⟨_, h3⟩ := ha _ m hg rfl
          obtain ⟨b, n', c', hk, rfl⟩ := h3 hl
          refine ⟨_, rfl, fun j c hc => ?_⟩
          rw [Addr.add_lit]
          exact row_cells hS hg rfl hk (rv_cap hS hg rfl hk (List.length_pos_of_mem (List.mem_of_getElem? hc)) cs' own rfl rfl (.inr ⟨t, e, rfl⟩)) cs' own (.inr ⟨t, e, rfl⟩) _ c hc
      · cases h
    · rename_i m cs' hg
      split at h
      · rename_i hl
        obtain ⟨rfl, rfl⟩ := Prod.mk.inj (Option.some.inj h)
        cases hx with
        | rv _ _ _ a ha =>
          obtain ⟨_, h3⟩ := ha _ m hg rfl
          obtain ⟨b, n', c', hk, rfl⟩ := h3 hl
          refine ⟨_, rfl, fun j c hc => ?_⟩
          rw [Addr.add_lit]
          exact row_cells hS hg rfl hk (rv_cap hS hg rfl hk (List.length_pos_of_mem (List.mem_of_getElem? hc)) cs' true rfl rfl (.inl ⟨rfl, rfl⟩)) cs' true (.inl ⟨rfl, rfl⟩) _ c hc
      · cases h
    · cases h
  · rename_i cs'
    obtain ⟨rfl, rfl⟩ := Prod.mk.inj (Option.some.inj h)
    cases hx with
    | im _ _ hx =>
      cases hx with
      | pt _ a vs _ hcell hr =>
        refine ⟨a, rfl, fun j c hc => ?_⟩
        rw [List.getElem?_map] at hc
        obtain ⟨x, hx, rfl⟩ := Option.map_eq_some_iff.1 hc
        rw [Nat.zero_add] at hx
        exact ⟨vs j, hcell j (List.getElem?_eq_some_iff.1 hx).1, .im _ _ (hr j x hx), (hr j x hx).one⟩
  · cases h

theorem run_isAgg {P : Program} {t : TypeId} (h : (P.underlying t).isSome = true) (w : World) : (isAgg t).run P w = .ok (aggB P t) w := by
  obtain ⟨d, hd⟩ := Option.isSome_iff_exists.1 h
  unfold isAgg aggB
  simp only [hd]
  simp [run_underlying hd]
  cases d <;> rfl
theorem run_sizeOf {P : Program} {t : TypeId} {n : Nat} (h : szOf P t = some n) (w : World) : (sizeOf t).run P w = .ok n w := by
  unfold szOf at h
  split at h
  · obtain ⟨i, hi, rfl⟩ := Option.map_eq_some_iff.1 h
    simp [sizeOf, typeInfo, hi]
  · cases h
theorem szOf_und {P : Program} {t : TypeId} {n : Nat} (h : szOf P t = some n) : (P.underlying t).isSome = true := by
  unfold szOf at h
  split at h
  · assumption
  · cases h

/-- A load of a variable of type t. -/
def evLoad (P : Program) (σ : Sto) (t : TypeId) (x : TV) : Option TV :=
  match x with
  | .c p => (ptr σ p).bind fun q => (szOf P t).bind fun n => sub (aggB P t) q.1 q.2 n
  | _ => none
theorem sub_ok {cs : List Cell} {off n : Nat} {agg : Bool} {r : TV} (h : sub agg cs off n = some r) {f : Nat → Value} (hf : ∀ j c, cs[off + j]? = some c → RC w ω κ σ c (f j) ∧ (f j).oneCell' = true) :
    (agg = true ∧ off + n ≤ cs.length ∧ RT w ω κ σ r (.agg ((List.range n).map f).toArray)) ∨ (agg = false ∧ off < cs.length ∧ RT w ω κ σ r (f 0)) := by
  unfold sub at h
  split at h
  · rename_i ha
    split at h
    · rename_i hl
      obtain rfl := Option.some.inj h
      refine .inl ⟨ha, hl, _, rfl, ⟨?_, fun j x y hx hy => ?_⟩, fun u hu => ?_⟩
      · simp; omega
      · have hjn : j < n := by
          have := (List.getElem?_eq_some_iff.1 hx).1
          simp at this; omega
        rw [List.getElem?_take_of_lt hjn, List.getElem?_drop] at hx
        have : y = f j := by simpa [hjn] using hy.symm
        subst this
        exact (hf j x hx).1
      · obtain ⟨j, hj, rfl⟩ := List.mem_map.1 hu
        have hjn := List.mem_range.1 hj
        exact (hf j cs[off + j] (by simp)).2
    · cases h
  · rename_i ha
    obtain ⟨c, hc, rfl⟩ := Option.map_eq_some_iff.1 h
    exact .inr ⟨by simpa using ha, (List.getElem?_eq_some_iff.1 hc).1, (hf 0 c hc).1⟩

theorem evLoad_ok {P : Program} (hS : RS w ω κ σ) {t : TypeId} {x r : TV} {v : Value} (h : evLoad P σ t x = some r) (hx : RT w ω κ σ x v) :
    ∃ u, (Instr.loadAt t v).run P w = .ok u w ∧ RT w ω κ σ r u := by
  unfold evLoad at h
  split at h
  · rename_i p
    obtain ⟨⟨cs, off⟩, hp, h⟩ := Option.bind_eq_some_iff.1 h
    obtain ⟨n, hn, h⟩ := Option.bind_eq_some_iff.1 h
    have ht := szOf_und hn
    obtain ⟨a, rfl, hc⟩ := ptr_ok hS hp hx
    have hf : ∀ j c, cs[off + j]? = some c → RC w ω κ σ c ((w.cell? (a.add j)).getD undef) ∧ ((w.cell? (a.add j)).getD undef).oneCell' = true := fun j c hcj => by
      obtain ⟨u, h1, h2, h3⟩ := hc j c hcj
      rw [h1]; exact ⟨h2, h3⟩
    rcases sub_ok h hf with ⟨ha, hl, hr⟩ | ⟨ha, hl, hr⟩
    · refine ⟨_, ?_, hr⟩
      have hcells : (loadCells a n).run P w = .ok ((List.range n).map fun j => (w.cell? (a.add j)).getD undef).toArray w := by
        have := run_loadCells_list (P := P) w a ((List.range n).map fun j => (w.cell? (a.add j)).getD undef) fun j u hu => by
          rw [List.getElem?_map] at hu
          obtain ⟨i, hi, rfl⟩ := Option.map_eq_some_iff.1 hu
          obtain ⟨hjn, hij⟩ := List.getElem?_eq_some_iff.1 hi
          simp at hij hjn
          subst hij
          obtain ⟨u, h1, _⟩ := hc j cs[off + j] (by simp)
          rw [h1]; rfl
        simpa using this
      simp [Instr.loadAt, Instr.sureAddr, loadVar, run_isAgg ht, ha, run_sizeOf hn, hcells]
    · obtain ⟨u, h1, h2, h3⟩ := hc 0 cs[off] (by simp [hl])
      rw [h1] at hr
      refine ⟨u, ?_, hr⟩
      simp [Instr.loadAt, Instr.sureAddr, loadVar, run_isAgg ht, ha]
      simp [Addr.add] at h1
      rw [h1]
  · cases h


/-- A struct type's field: where it lies, its type. -/
def fldOf (P : Program) (s : TypeId) (f : Nat) : Option (Nat × TypeId) :=
  match P.underlying s with
  | some (.struct fs) => (fs[f]?).map fun x => (x.offset, x.type)
  | _ => none
theorem fldOf_some {P : Program} {s : TypeId} {f o : Nat} {t : TypeId} (h : fldOf P s f = some (o, t)) : ∃ fs x, P.underlying s = some (.struct fs) ∧ fs[f]? = some x ∧ x.offset = o ∧ x.type = t := by
  unfold fldOf at h
  split at h
  · rename_i fs hu
    obtain ⟨x, hx, he⟩ := Option.map_eq_some_iff.1 h
    obtain ⟨rfl, rfl⟩ := Prod.mk.inj he
    exact ⟨fs, x, hu, hx, rfl, rfl⟩
  · cases h
def evField (P : Program) (s : TypeId) (x : TV) (f : Nat) : Option TV :=
  match x with
  | .ag cs => (fldOf P s f).bind fun q => (szOf P q.2).bind fun n => sub (aggB P q.2) cs q.1 n
  | _ => none
theorem evField_ok {P : Program} {s : TypeId} {x r : TV} {f : Nat} {v : Value} (h : evField P s x f = some r) (hx : RT w ω κ σ x v) :
    ∃ u, (Instr.field s v f).run P w = .ok u w ∧ RT w ω κ σ r u := by
  unfold evField at h
  split at h
  · rename_i cs
    obtain ⟨⟨o, t⟩, hf, h⟩ := Option.bind_eq_some_iff.1 h
    obtain ⟨n, hn, h⟩ := Option.bind_eq_some_iff.1 h
    obtain ⟨fs, fx, hu, hfx, rfl, rfl⟩ := fldOf_some hf
    have ht := szOf_und hn
    obtain ⟨vs, rfl, h1, h2⟩ := hx
    have hc : ∀ j c, cs[fx.offset + j]? = some c → RC w ω κ σ c (vs.getD (fx.offset + j) undef) ∧ (vs.getD (fx.offset + j) undef).oneCell' = true := fun j c hcj => by
      obtain ⟨u, hu1, hu2⟩ := h1.get hcj
      have : vs.getD (fx.offset + j) undef = u := by simp [List.getD, hu1]
      rw [this]
      exact ⟨hu2, h2 u (List.mem_of_getElem? hu1)⟩
    rcases sub_ok h hc with ⟨ha, hl, hr⟩ | ⟨ha, hl, hr⟩
    · refine ⟨_, ?_, hr⟩
      have hlen : vs.length = cs.length := h1.1.symm
      simp only [] at hl
      have this : List.take n (List.drop fx.offset vs) = List.map (fun j => vs[fx.offset + j]?.getD undef) (List.range n) := by
        apply List.ext_getElem?
        intro j
        by_cases hj : j < n
        · rw [List.getElem?_take_of_lt hj, List.getElem?_drop, List.getElem?_map, List.getElem?_range hj]
          simp [show fx.offset + j < vs.length by omega]
        · rw [List.getElem?_eq_none (by simp; omega), List.getElem?_eq_none (by simp; omega)]
      simp [Instr.field, run_underlying hu, hfx, part, asAgg, run_isAgg ht, ha, run_sizeOf hn, this]
    · simp only [Nat.add_zero] at hr
      refine ⟨_, ?_, hr⟩
      simp only [] at hl
      have hlen : fx.offset < vs.length := by rw [← h1.1]; exact hl
      simp [Instr.field, run_underlying hu, hfx, part, asAgg, run_isAgg ht, ha, List.getD, hlen]
  · cases h

/-- A pointer n cells further. -/
def shift (x : Cell) (n : Nat) : Option Cell :=
  match x with
  | .rf k off => some (.rf k (off + n))
  | .rv k len off => some (.rv k len (off + n))
  | .im (.pt cs) => some (.im (.pt (cs.drop n)))
  | _ => none
theorem shift_ok {x y : Cell} {n : Nat} {v : Value} (h : shift x n = some y) (hx : RC w ω κ σ x v) : ∃ a, v = .pointer (some a) ∧ RC w ω κ σ y (.pointer (some (a.add n))) := by
  unfold shift at h
  split at h
  · obtain rfl := Option.some.inj h
    cases hx with
    | rf k off b hk => exact ⟨_, rfl, by rw [Addr.add_lit]; exact .rf _ _ _ hk⟩
  · obtain rfl := Option.some.inj h
    cases hx with
    | rv k len off a ha =>
      refine ⟨_, rfl, .rv _ _ _ _ fun o m hg hm => ?_⟩
      obtain ⟨h1, h2⟩ := ha o m hg hm
      refine ⟨h1, fun hl => ?_⟩
      obtain ⟨b, n', c, h3, rfl⟩ := h2 hl
      exact ⟨b, n', c, h3, by rw [Addr.add_lit]⟩
  · obtain rfl := Option.some.inj h
    cases hx with
    | im _ _ hx =>
      cases hx with
      | pt cs a vs hd hc hr =>
        refine ⟨_, rfl, .im _ _ (.pt _ _ (fun j => vs (n + j)) (fun h => by rw [addr_add_block]; exact hd (by rintro rfl; simp at h)) (fun j hj => ?_) fun j x hj => ?_)⟩
        · rw [addr_add_add]; exact hc _ (by simp at hj; omega)
        · rw [List.getElem?_drop] at hj; exact hr _ _ hj
  · cases h
def evFieldAddr (P : Program) (s : TypeId) (x : TV) (f : Nat) : Option TV :=
  match x with
  | .c p => (fldOf P s f).bind fun q => (szOf P q.2).bind fun n => if n = 0 then none else (shift p q.1).map .c
  | _ => none
theorem evFieldAddr_ok {P : Program} {s : TypeId} {x r : TV} {f : Nat} {v : Value} (h : evFieldAddr P s x f = some r) (hx : RT w ω κ σ x v) :
    ∃ u, (Instr.fieldAt s v f).run P w = .ok u w ∧ RT w ω κ σ r u := by
  unfold evFieldAddr at h
  split at h
  · obtain ⟨⟨o, t⟩, hf, h⟩ := Option.bind_eq_some_iff.1 h
    obtain ⟨n, hn, h⟩ := Option.bind_eq_some_iff.1 h
    obtain ⟨fs, fx, hu, hfx, rfl, rfl⟩ := fldOf_some hf
    split at h
    · cases h
    · rename_i hn0
      obtain ⟨y, hy, rfl⟩ := Option.map_eq_some_iff.1 h
      obtain ⟨a, rfl, hr⟩ := shift_ok hy hx
      refine ⟨_, ?_, hr⟩
      simp [Instr.fieldAt, run_underlying hu, hfx, Instr.sureAddr, fieldPlace, run_sizeOf hn, hn0]
  · cases h

/-- A slice type's element type, its size. -/
def elOf (P : Program) (t : TypeId) : Option (TypeId × Nat) :=
  match P.underlying t with
  | some (.slice e) => (szOf P e).map fun n => (e, n)
  | _ => none
theorem elOf_some {P : Program} {t e : TypeId} {n : Nat} (h : elOf P t = some (e, n)) : P.underlying t = some (.slice e) ∧ szOf P e = some n ∧ P.elem t = e := by
  unfold elOf at h
  split at h
  · rename_i e' hu
    obtain ⟨m, hm, he⟩ := Option.map_eq_some_iff.1 h
    obtain ⟨rfl, rfl⟩ := Prod.mk.inj he
    exact ⟨hu, hm, by simp [Program.elem, hu]⟩
  · cases h
def evIndexAddr (P : Program) (σ : Sto) (t : TypeId) (x i : TV) : Option TV :=
  match x, i with
  | .c (.im (.sl n cs)), .c (.im (.sc (.int _ i))) => (elOf P t).bind fun q => if 0 ≤ i ∧ i < n then some (.c (.im (.pt (cs.drop (i.toNat * q.2))))) else none
  | .c (.ik _ n cs), .c (.im (.sc (.int _ i))) => (elOf P t).bind fun q => if 0 ≤ i ∧ i < n then some (.c (.im (.pt (cs.drop (i.toNat * q.2))))) else none
  | .c (.os k n), .c (.im (.sc (.int _ i))) => (elOf P t).bind fun q =>
    match (get σ k).bind Ob.len? with
    | some m => if m = n then (if 0 ≤ i ∧ i < n then some (.c (.rv k n (i.toNat * q.2))) else none) else none
    | _ => none
  | _, _ => none
theorem indexAddr_im {P : Program} {t : TypeId} {n : Nat} {cs : List IV} {kk : IntKind} {ii : Int} {r : TV} {v u : Value} (h : ((elOf P t).bind fun q => if 0 ≤ ii ∧ ii < n then some (.c (.im (.pt (cs.drop (ii.toNat * q.2))))) else none) = some r)
    (hx : RI w ω (.sl n cs) v) (hi : RT w ω κ σ (.c (.im (.sc (.int kk ii)))) u) : ∃ y, (Instr.indexAt t v u).run P w = .ok y w ∧ RT w ω κ σ r y := by
  obtain ⟨⟨e, sz⟩, he, h⟩ := Option.bind_eq_some_iff.1 h
  obtain ⟨h1, h2, h3⟩ := elOf_some he
  split at h
  · rename_i hb
    obtain rfl := Option.some.inj h
    cases hi with
    | im _ _ hi =>
      cases hi with
      | sc _ _ =>
        cases hx with
        | slnil => simp at hb; omega
        | sl _ c _ a vs hd hn hm hcell hr =>
          refine ⟨_, ?_, .im _ _ (.pt _ (a.add (ii.toNat * sz)) (fun j => vs (ii.toNat * sz + j)) (fun h => by rw [addr_add_block]; exact hd (by rintro rfl; simp at h)) (fun j hj => ?_) fun j x hj => ?_)⟩
          · rw [run_indexAt_slice (h := by rw [h3]; exact h1), if_pos (by simpa using hb), h3, run_sizeOf h2]; rfl
          · rw [addr_add_add]; exact hcell _ (by simp at hj; omega)
          · rw [List.getElem?_drop] at hj; exact hr _ _ hj
  · cases h
theorem evIndexAddr_ok {P : Program} (hS : RS w ω κ σ) {t : TypeId} {x i r : TV} {v u : Value} (h : evIndexAddr P σ t x i = some r) (hx : RT w ω κ σ x v) (hi : RT w ω κ σ i u) :
    ∃ y, (Instr.indexAt t v u).run P w = .ok y w ∧ RT w ω κ σ r y := by
  unfold evIndexAddr at h
  split at h
  · cases hx with | im _ _ hx => exact indexAddr_im h hx hi
  · cases hx with | ik _ _ _ _ hx => exact indexAddr_im h hx hi
  · rename_i k n kk ii
    obtain ⟨⟨e, sz⟩, he, h⟩ := Option.bind_eq_some_iff.1 h
    obtain ⟨h1, h2, h3⟩ := elOf_some he
    split at h
    · rename_i m hm
      obtain ⟨o, hg, hm⟩ := Option.bind_eq_some_iff.1 hm
      split at h
      · rename_i hl
        subst hl
        split at h
        · rename_i hb
          obtain rfl := Option.some.inj h
          cases hi with
          | im _ _ hi =>
            cases hi with
            | sc _ _ =>
              cases hx with
              | os _ _ a c hnc _ ha =>
                have hk := (ha _ _ hg hm).2 rfl
                obtain ⟨g, rfl⟩ : ∃ g, a = some ⟨g, 0, none⟩ := by
                  have hob := hS.ob k o hg
                  cases o with
                  | box => cases hm
                  | map => cases hm
                  | gl => cases hm
                  | vec t' e' n' cs own =>
                    obtain rfl := Option.some.inj hm
                    obtain ⟨h0, xs, how, _⟩ := hob
                    rw [hk] at how
                    rcases how.2 with ⟨hv, hm⟩ | ⟨g, cap, cur, hv, _⟩
                    · omega
                    · injection hv with hv1 hv2 hv3
                      exact ⟨g, hv1⟩
                  | row n' cs =>
                    obtain rfl := Option.some.inj hm
                    obtain ⟨S, hr, _⟩ := hob
                    rw [hk] at hr
                    cases hr with
                    | z => simp at hb; omega
                    | sl _ _ g => exact ⟨g, rfl⟩
                refine ⟨_, ?_, .rv _ _ _ (⟨g, 0 + ii.toNat * sz, none⟩ : Addr) fun o' m' hg' hm' => ?_⟩
                · rw [run_indexAt_slice (h := by rw [h3]; exact h1), if_pos (by simpa using hb), h3, run_sizeOf h2]
                  simp [Result.andThen, Addr.add_lit]
                · rw [hg] at hg'
                  obtain rfl := Option.some.inj hg'
                  rw [hm] at hm'
                  obtain rfl := Option.some.inj hm'
                  exact ⟨Nat.le_refl _, fun _ => ⟨g, _, _, hk, by simp⟩⟩
        · cases h
      · cases h
    · cases h
  · cases h
end
end Go.VC
/- More operations that change no memory. -/
set_option linter.unusedSimpArgs false
set_option linter.unusedVariables false
namespace Go.VC
open Go Go.RowKit
section
variable {w : World} {ω : Lab} {κ : Nat → Value} {σ : Sto} {E : Env} {a : Act}

theorem RC.one {x : Cell} {v : Value} (h : RC w ω κ σ x v) (hb : x ≠ .bad) (hn : x.anyN = false) : v.oneCell' = true := by
  cases h with
  | im _ _ h => exact h.one
  | bad => exact absurd rfl hb
  | ns => cases hn
  | _ => rfl
/-- The cells of a value that is known. -/
def cellsT : TV → Option (List Cell)
  | .c .bad => none
  | .c x => if x.anyN then none else some [x]
  | .ag cs => if anyNL cs then none else some cs
  | .tp _ => none
theorem cells_one {v : Value} (h : v.oneCell' = true) : v.cells = #[v] := by cases v <;> first | rfl | (simp [Value.oneCell'] at h)
theorem cellsT_ok {x : TV} {v : Value} {cs : List Cell} (h : cellsT x = some cs) (hx : RT w ω κ σ x v) : All2 (RC w ω κ σ) cs v.cells.toList ∧ (∀ u ∈ v.cells.toList, u.oneCell' = true) ∧ anyNL cs = false := by
  unfold cellsT at h
  split at h
  · cases h
  · rename_i x hb
    split at h
    · cases h
    · rename_i hn
      have hn : x.anyN = false := by simpa using hn
      obtain rfl := Option.some.inj h
      have h1 : v.oneCell' = true := RC.one hx (fun e => hb (by rw [e])) hn
      rw [cells_one h1]
      refine ⟨⟨rfl, fun j y z hy hz => ?_⟩, by simp [h1], by simp [anyNL, hn]⟩
      cases j with
      | zero => simp at hy hz; subst hy; subst hz; exact hx
      | succ j => simp at hy
  · split at h
    · cases h
    · rename_i hn
      obtain rfl := Option.some.inj h
      obtain ⟨vs, rfl, h1, h2⟩ := hx
      exact ⟨h1, h2, by simpa using hn⟩
  · cases h

def ofC (v : Value) : Cell := match ofV v with | some (.c x) => x | _ => .bad
theorem ofC_ok (v : Value) : RC w ω κ σ (ofC v) v := by
  unfold ofC
  split
  · rename_i x h; exact ofV_ok h
  · exact .bad v
def setL {α : Type} (cs : List α) (off : Nat) : List α → List α
  | [] => cs
  | x :: r => setL (cs.set off x) (off + 1) r
theorem All2.setL {α β : Type} {R : α → β → Prop} {news : List α} {vs : List β} (h : All2 R news vs) : ∀ {cs : List α} {ys : List β} (off : Nat), All2 R cs ys → All2 R (setL cs off news) (setL ys off vs) := by
  induction news generalizing vs with
  | nil =>
    intro cs ys off hc
    have : vs = [] := List.eq_nil_of_length_eq_zero h.1.symm
    subst this; exact hc
  | cons x r ih =>
    intro cs ys off hc
    cases vs with
    | nil => simp [All2] at h
    | cons v vs =>
      have hh : R x v := h.2 0 x v rfl rfl
      have ht : All2 R r vs := ⟨by simpa using h.1, fun j y z hy hz => h.2 (j + 1) y z hy hz⟩
      exact ih ht (off + 1) (hc.set off hh)
theorem setL_len {α : Type} (news cs : List α) (off : Nat) : (setL cs off news).length = cs.length := by
  induction news generalizing cs off with
  | nil => rfl
  | cons x r ih => simp [setL, ih]
theorem setL_mem {α : Type} {news cs : List α} {off : Nat} {u : α} (h : u ∈ setL cs off news) : u ∈ cs ∨ u ∈ news := by
  induction news generalizing cs off with
  | nil => exact .inl h
  | cons x r ih =>
    rcases ih h with h | h
    · rcases List.mem_or_eq_of_mem_set h with h | h
      · exact .inl h
      · exact .inr (by simp [h])
    · exact .inr (by simp [h])
theorem foldl_setL (l : List Value) : ∀ (k off : Nat) (cs : Array Value), ((l.zipIdx k).foldl (fun cs (p : Value × Nat) => cs.setIfInBounds (off + p.2) p.1) cs).toList = setL cs.toList (off + k) l := by
  induction l with
  | nil => intro k off cs; rfl
  | cons x r ih =>
    intro k off cs
    simp only [List.zipIdx_cons, List.foldl_cons, setL]
    rw [ih (k + 1) off]
    simp [Nat.add_assoc]

/-- Fields are set, part by part. -/
def fillC (pl : List (Nat × Nat)) (cells : List Cell) : List (Nat × TV) → Option (List Cell)
  | [] => some cells
  | (i, x) :: rest =>
    match pl[i]?, cellsT x with
    | some (off, size), some xs => if xs.length = size ∧ off + xs.length ≤ cells.length then fillC pl (setL cells off xs) rest else none
    | _, _ => none
theorem fillC_ok {pl : List (Nat × Nat)} {place : Nat → Option (Nat × Nat)} (hplace : ∀ i q, pl[i]? = some q → place i = some q) {ps : List (Nat × TV)} {qs : List (Nat × Value)} (hp : All2 (fun (p : Nat × TV) (q : Nat × Value) => p.1 = q.1 ∧ RT w ω κ σ p.2 q.2) ps qs) :
    ∀ {cs cs' : List Cell} {zs : Array Value}, All2 (RC w ω κ σ) cs zs.toList → (∀ u ∈ zs.toList, u.oneCell' = true) → fillC pl cs ps = some cs' →
    ∃ vs : Array Value, Instr.fill place zs qs = some vs ∧ All2 (RC w ω κ σ) cs' vs.toList ∧ ∀ u ∈ vs.toList, u.oneCell' = true := by
  induction ps generalizing qs with
  | nil =>
    intro cs cs' zs h1 h2 h
    have : qs = [] := List.eq_nil_of_length_eq_zero hp.1.symm
    subst this
    obtain rfl := Option.some.inj h
    exact ⟨zs, rfl, h1, h2⟩
  | cons p r ih =>
    intro cs cs' zs h1 h2 h
    cases qs with
    | nil => simp [All2] at hp
    | cons q qs =>
      obtain ⟨i, x⟩ := p
      obtain ⟨j, v⟩ := q
      obtain ⟨hij, hxv⟩ := hp.2 0 _ _ rfl rfl
      simp only at hij hxv
      subst hij
      have ht : All2 (fun (p : Nat × TV) (q : Nat × Value) => p.1 = q.1 ∧ RT w ω κ σ p.2 q.2) r qs := ⟨by simpa using hp.1, fun j y z hy hz => hp.2 (j + 1) y z hy hz⟩
      simp only [fillC] at h
      split at h
      · rename_i off size xs hpl hcx
        split at h
        · rename_i hb
          obtain ⟨h3, h4, _⟩ := cellsT_ok hcx hxv
          have hl : v.cells.size = xs.length := by have := h3.1; simpa using this.symm
          have hz : cs.length = zs.size := by simpa using h1.1
          have e : (v.cells.zipIdx.foldl (fun cs (p : Value × Nat) => cs.setIfInBounds (off + p.2) p.1) zs) = (setL zs.toList off v.cells.toList).toArray := by
            apply Array.ext'
            have := foldl_setL v.cells.toList 0 off zs
            rw [← Array.foldl_toList, Array.toList_zipIdx]
            simpa using this
          obtain ⟨vs, g1, g2, g3⟩ := ih ht (cs := setL cs off xs) (cs' := cs') (zs := (setL zs.toList off v.cells.toList).toArray) (by simpa using h3.setL off h1)
            (fun u hu => by
              rcases setL_mem (by simpa using hu) with h | h
              · exact h2 u h
              · exact h4 u h) h
          refine ⟨vs, ?_, g2, g3⟩
          simp only [Instr.fill, hplace _ _ hpl]
          rw [if_neg (by simp; omega), e]
          exact g1
        · cases h
      · cases h

/-- A struct type's parts: where each lies and how great it is; its zero value. -/
def plOf (P : Program) (t : TypeId) : Option (List (Nat × Nat) × List Value) :=
  match P.info? t, P.underlying t with
  | some it, some (.struct fields) =>
    match it.zero, fields.toList.mapM (fun f => (P.info? f.type).map fun i => (f.offset, i.size)) with
    | some z, some pl => if z.cells.all (·.oneCell') then some (pl, z.cells.toList) else none
    | _, _ => none
  | _, _ => none
def opds (E : Env) : List (Nat × Operand) → Option (List (Nat × TV))
  | [] => some []
  | (i, x) :: r => (opd E x).bind fun y => (opds E r).map ((i, y) :: ·)
theorem opds_ok (hE : EnvOk w ω κ σ E a.tmps) : ∀ {ps : List (Nat × Operand)} {qs : List (Nat × TV)}, opds E ps = some qs →
    All2 (fun (p : Nat × TV) (q : Nat × Value) => p.1 = q.1 ∧ RT w ω κ σ p.2 q.2) qs (ps.map fun p => (p.1, a.eval p.2))
  | [], qs, h => by obtain rfl := Option.some.inj h; exact ⟨rfl, by simp⟩
  | (i, x) :: r, qs, h => by
    simp only [opds] at h
    obtain ⟨y, hy, h⟩ := Option.bind_eq_some_iff.1 h
    obtain ⟨qs', hq, rfl⟩ := Option.map_eq_some_iff.1 h
    obtain ⟨h1, h2⟩ := opds_ok hE hq
    refine ⟨by simp [h1], fun j p q hp hq => ?_⟩
    cases j with
    | zero => simp at hp hq; subst hp; subst hq; exact ⟨rfl, opd_ok hE hy⟩
    | succ j => exact h2 j p q (by simpa using hp) (by simpa using hq)
def evBuild (P : Program) (E : Env) (t : TypeId) (parts : Array (Nat × Operand)) : Option TV :=
  (plOf P t).bind fun q => (opds E parts.toList).bind fun ps => (fillC q.1 (q.2.map ofC) ps).map .ag
theorem evBuild_ok {P : Program} (hE : EnvOk w ω κ σ E a.tmps) {t : TypeId} {parts : Array (Nat × Operand)} {r : TV} (h : evBuild P E t parts = some r) :
    ∃ u, (Instr.build t (parts.map fun (p : Nat × Operand) => (p.1, a.eval p.2))).run P w = .ok u w ∧ RT w ω κ σ r u := by
  unfold evBuild at h
  obtain ⟨⟨pl, z⟩, hp, h⟩ := Option.bind_eq_some_iff.1 h
  obtain ⟨ps, hps, h⟩ := Option.bind_eq_some_iff.1 h
  obtain ⟨cs, hcs, rfl⟩ := Option.map_eq_some_iff.1 h
  unfold plOf at hp
  split at hp
  · rename_i it fields hi hu
    split at hp
    · rename_i z' pl' hz hm
      split at hp
      · rename_i hone
        obtain ⟨rfl, rfl⟩ := Prod.mk.inj (Option.some.inj hp)
        have h1 : All2 (RC w ω κ σ) (z'.cells.toList.map ofC) z'.cells.toList := ⟨by simp, fun j x y hx hy => by
          rw [List.getElem?_map, hy] at hx
          obtain rfl := Option.some.inj hx
          exact ofC_ok y⟩
        obtain ⟨vs, g1, g2, g3⟩ := fillC_ok (pl := pl') (place := fun i => pl'[i]?) (fun _ _ h => h) (opds_ok hE hps) h1 (fun u hu => by
          have := Array.all_eq_true_iff_forall_mem.1 hone u (by simpa using hu)
          exact this) hcs
        refine ⟨.agg vs, run_build w t _ vs ?_, vs.toList, by simp, g2, g3⟩
        unfold Program.built
        simp only [hi, hu, hz, hm]
        simpa using g1
      · cases hp
    · cases hp
  · cases hp

def evIndex (P : Program) (t : TypeId) (x i : TV) : Option TV :=
  match x, i with
  | .c (.im (.sc (.string s))), .c (.im (.sc (.int _ i))) =>
    match P.underlying t with
    | some .string => if 0 ≤ i ∧ i < (s.size : Int) then some (.c (.im (.sc (.int .u8 ((s.data.toList.getD i.toNat 0).toNat : Int))))) else none
    | _ => none
  | _, _ => none
theorem evIndex_ok {P : Program} {t : TypeId} {x i r : TV} {v u : Value} (h : evIndex P t x i = some r) (hx : RT w ω κ σ x v) (hi : RT w ω κ σ i u) :
    ∃ y, (Instr.index t v u).run P w = .ok y w ∧ RT w ω κ σ r y := by
  unfold evIndex at h
  split at h
  · rename_i s kk ii
    split at h
    · rename_i hu
      split at h
      · rename_i hb
        obtain rfl := Option.some.inj h
        cases hi with
        | im _ _ hi =>
          cases hi
          cases hx with
          | im _ _ hx =>
            cases hx
            refine ⟨_, ?_, .im _ _ (.sc _ rfl)⟩
            rw [run_index_string (h := hu), dif_pos hb]
            have : ii.toNat < s.data.size := by have : s.size = s.data.size := rfl; omega
            have e : s.data.toList.getD ii.toNat 0 = s[ii.toNat]'(by have : s.size = s.data.size := rfl; omega) := by
              simp only [List.getD, Array.getElem?_toList, Array.getElem?_eq_getElem this]; rfl
            rw [e]
      · cases h
    · cases h
  · cases h

def evExtract (x : TV) (i : Nat) : Option TV :=
  match x with
  | .tp ts => ts[i]?
  | _ => none
theorem RT_of_RT1 {x : TV} {v : Value} (h : RT1 w ω κ σ x v) : RT w ω κ σ x v := by cases x <;> first | exact h | exact h.elim
theorem evExtract_ok {P : Program} {x r : TV} {i : Nat} {v : Value} (h : evExtract x i = some r) (hx : RT w ω κ σ x v) : ∃ y, (Instr.extract v i).run P w = .ok y w ∧ RT w ω κ σ r y := by
  unfold evExtract at h
  split at h
  · obtain ⟨vs, rfl, h1⟩ := hx
    obtain ⟨y, hy, hr⟩ := h1.get h
    exact ⟨y, by simp [Instr.extract, hy], RT_of_RT1 hr⟩
  · cases h

/-- The order of strings. -/
def sLt (a b : ByteArray) : Bool := Op.bytesLess a.data.toList b.data.toList
theorem str_eq (a b : ByteArray) : (a.toList == b.toList) = decide (a = b) := by
  rw [ByteArray.toList_eq, ByteArray.toList_eq, Bool.eq_iff_iff, beq_iff_eq, decide_eq_true_eq]
  constructor
  · intro h
    cases a; cases b
    simp only [ByteArray.mk.injEq]
    exact Array.ext' h
  · rintro rfl; rfl
theorem str_lt (a b : ByteArray) : Op.bytesLess a.toList b.toList = sLt a b := by rw [ByteArray.toList_eq, ByteArray.toList_eq]; rfl
/-- Operators on scalars. -/
def evBin (P : Program) (t : TypeId) (op : BinOp) (x y : Value) : Option Value :=
  match op, x, y with
  | .shl, _, _ => none
  | .shr, .int k a, .int _ b => if b = 1 then some (.int k (a.fdiv 2)) else none
  | .shr, _, _ => none
  | op, .int k a, .int k' b =>
    if k = k' then
      match op with
      | .add => some (.int k (k.wrap (a + b)))
      | .sub => some (.int k (k.wrap (a - b)))
      | .mul => some (.int k (k.wrap (a * b)))
      | .quo => if b = 0 then none else some (.int k (k.wrap (a.tdiv b)))
      | .rem => if b = 0 then none else some (.int k (a.tmod b))
      | .eql => some (.bool (decide (a = b)))
      | .neq => some (.bool (!decide (a = b)))
      | .lss => some (.bool (decide (a < b)))
      | .leq => some (.bool (decide (a ≤ b)))
      | .gtr => some (.bool (decide (b < a)))
      | .geq => some (.bool (decide (b ≤ a)))
      | _ => none
    else none
  | op, .string a, .string b =>
    match op with
    | .add => if ((a.size + b.size : Nat) : Int) ≤ 9223372036854775807 then some (.string (a ++ b)) else none
    | .eql => some (.bool (decide (a = b)))
    | .neq => some (.bool (!decide (a = b)))
    | .lss => some (.bool (sLt a b))
    | .leq => some (.bool (sLt a b || decide (a = b)))
    | .gtr => some (.bool (!(sLt a b || decide (a = b))))
    | .geq => some (.bool (!(sLt a b)))
    | _ => none
  | .eql, .bool a, .bool b => match P.underlying t with | some .bool => some (.bool (a == b)) | _ => none
  | .neq, .bool a, .bool b => match P.underlying t with | some .bool => some (.bool (!(a == b))) | _ => none
  | _, _, _ => none
theorem evBin_ok {P : Program} {op : BinOp} {x y v : Value} {t : TypeId} (h : evBin P t op x y = some v) (w : World) : (binOp op t x y).run P w = .ok v w ∧ scalarB v = true := by
  unfold evBin at h
  split at h
  · cases h
  · split at h
    · rename_i k a _ b hb
      subst hb
      obtain rfl := Option.some.inj h
      refine ⟨?_, rfl⟩
      cases k <;> rfl
    · cases h
  · cases h
  · split at h
    · rename_i hk
      subst hk
      split at h <;> first
        | (obtain rfl := Option.some.inj h; refine ⟨?_, rfl⟩; first | (simp [binOp, Op.intArith, Op.intCmp]; done) | (simp only [binOp, Op.intCmp, ne_eq, not_true_eq_false, if_false]; rfl))
        | (split at h; (· cases h); rename_i hb; obtain rfl := Option.some.inj h; refine ⟨?_, rfl⟩; simp [binOp, Op.intDiv, hb]; done)
        | cases h
    · cases h
  · split at h <;> first
      | (obtain rfl := Option.some.inj h; refine ⟨?_, rfl⟩; simp [binOp, Op.stringOp, str_eq, str_lt]; done)
      | (split at h
         · rename_i hb; obtain rfl := Option.some.inj h; refine ⟨?_, rfl⟩
           have hm : IntKind.i64.max = 9223372036854775807 := by decide
           simp only [binOp, Op.stringOp, hm]
           rw [if_neg (by omega)]; rfl
         · cases h)
      | cases h
  · split at h
    · rename_i hu; obtain rfl := Option.some.inj h; exact ⟨run_eql_bool w _ _ _ hu, rfl⟩
    · cases h
  · split at h
    · rename_i hu; obtain rfl := Option.some.inj h; exact ⟨by simp only [binOp, Sem.run_bind, run_equal_bool w _ _ _ hu]; rfl, rfl⟩
    · cases h
  · cases h
end
end Go.VC
/- Slicing, functions, lengths; all operations that change no memory in one. -/
set_option linter.unusedSimpArgs false
set_option linter.unusedVariables false
namespace Go.VC
open Go Go.RowKit
section
variable {w : World} {ω : Lab} {κ : Nat → Value} {σ : Sto} {E : Env} {a : Act}

/-- A bound that is given, or not. -/
def bnd (E : Env) (d : Int) : Option Operand → Option Int
  | none => some d
  | some x => match opd E x with | some (.c (.im (.sc (.int _ i)))) => some i | _ => none
theorem bnd_ok (hE : EnvOk w ω κ σ E a.tmps) {d i : Int} {x : Option Operand} (h : bnd E d x = some i) : (x = none ∧ i = d) ∨ ∃ y k, x = some y ∧ a.eval y = .int k i := by
  cases x with
  | none => exact .inl ⟨rfl, (Option.some.inj h).symm⟩
  | some y =>
    simp only [bnd] at h
    split at h
    · rename_i k i' hy
      obtain rfl := Option.some.inj h
      have := opd_ok hE hy
      generalize hv : a.eval y = v at this
      cases this with
      | im _ _ h => cases h; exact .inr ⟨y, k, rfl, hv⟩
    · cases h
theorem run_bounds {P : Program} (isSlice : Bool) (len cap l h m : Nat) (lo hi mx : Option Value)
    (hm : (mx = none ∧ m = cap) ∨ ∃ k, mx = some (.int k (m : Int))) (hmc : m ≤ cap) (hh : (hi = none ∧ mx = none ∧ h = len) ∨ ∃ k, hi = some (.int k (h : Int))) (hhm : h ≤ m)
    (hl : (lo = none ∧ l = 0) ∨ ∃ k, lo = some (.int k (l : Int))) (hlh : l ≤ h) (w : World) : (Instr.sliceBounds isSlice len cap lo hi mx).run P w = .ok (l, h, m) w := by
  rcases hm with ⟨rfl, rfl⟩ | ⟨km, rfl⟩ <;> rcases hh with ⟨rfl, h1, rfl⟩ | ⟨kh, rfl⟩ <;> rcases hl with ⟨rfl, rfl⟩ | ⟨kl, rfl⟩ <;> first | (cases h1; done) | skip
  all_goals simp [Instr.sliceBounds, run_sliceBound, hmc, hhm, hlh, Int.ofNat_le]

/-- A part of a slice: its bounds, and its capacity where it is known. -/
def partOf (E : Env) (cap : Option Nat) (n sz : Nat) (cs : List IV) (lo hi mx : Option Operand) : Option TV :=
  (bnd E 0 lo).bind fun l => (bnd E n hi).bind fun h =>
    if 0 ≤ l ∧ l ≤ h ∧ h ≤ (n : Int) then
      match mx with
      | none => match cap with
        | none => some (.c (.im (.sl (h.toNat - l.toNat) ((cs.drop (l.toNat * sz)).take ((h.toNat - l.toNat) * sz)))))
        | some c => some (.c (.ik (c - l.toNat) (h.toNat - l.toNat) ((cs.drop (l.toNat * sz)).take ((h.toNat - l.toNat) * sz))))
      | some _ => if hi = none then none else (bnd E 0 mx).bind fun m =>
        if h ≤ m ∧ m ≤ (n : Int) then some (.c (.ik (m.toNat - l.toNat) (h.toNat - l.toNat) ((cs.drop (l.toNat * sz)).take ((h.toNat - l.toNat) * sz)))) else none
    else none
theorem run_part {P : Program} (hE : EnvOk w ω κ σ E a.tmps) {t e : TypeId} {sz n c : Nat} {lo hi mx : Option Operand} {ad : Option Addr} (he : elOf P t = some (e, sz)) {l hh : Int} (hl : bnd E 0 lo = some l) (hhi : bnd E n hi = some hh)
    (hb : 0 ≤ l ∧ l ≤ hh) (m : Nat) (hhm : hh.toNat ≤ m) (hmc : m ≤ c) (hm : (mx.map a.eval = none ∧ m = c) ∨ ∃ k, mx.map a.eval = some (.int k (m : Int))) (hmx : mx ≠ none → hi ≠ none) (hnc : n ≤ c) :
    (Instr.sliceAt t (.slice ad n c) (lo.map a.eval) (hi.map a.eval) (mx.map a.eval)).run P w = .ok (sliced ad l.toNat hh.toNat m sz) w := by
  obtain ⟨h1, h2, h3⟩ := elOf_some he
  have hu : P.underlying t = some (.slice (P.elem t)) := by rw [h3]; exact h1
  rw [run_sliceAt_slice (h := hu), run_slice_any (ht := hu), run_bounds true n c l.toNat hh.toNat m _ _ _ hm hmc ?_ hhm ?_ (by omega)]
  · simp [Result.andThen, h3, run_sizeOf h2]
  · rcases bnd_ok hE hhi with ⟨rfl, rfl⟩ | ⟨y, k, rfl, hy⟩
    · refine .inl ⟨rfl, ?_, by simp⟩
      cases mx with
      | none => rfl
      | some q => exact absurd rfl (hmx (by simp))
    · exact .inr ⟨k, by simp [hy]; omega⟩
  · rcases bnd_ok hE hl with ⟨rfl, rfl⟩ | ⟨y, k, rfl, hy⟩
    · exact .inl ⟨rfl, rfl⟩
    · exact .inr ⟨k, by simp [hy]; omega⟩
/-- A part of an own row. -/
def partOv (E : Env) (k n off n1 sz : Nat) (lo hi mx : Option Operand) : Option TV :=
  match mx with
  | some _ => none
  | none => (bnd E 0 lo).bind fun l => (bnd E n1 hi).bind fun h => if 0 ≤ l ∧ l ≤ h ∧ h ≤ (n1 : Int) ∧ 0 < sz then some (.c (.ov k n (off + l.toNat * sz) (h.toNat - l.toNat))) else none
theorem partOv_ok {P : Program} (hE : EnvOk w ω κ σ E a.tmps) {t e : TypeId} {sz k n off n1 c : Nat} {lo hi mx : Option Operand} {r : TV} {ad : Option Addr} (he : elOf P t = some (e, sz)) (hz : ad = none → c = 0)
    (hr : ∀ o l, get σ k = some o → o.len? = some l → n ≤ l ∧ (l = n → OvOk (κ k) off ad n1 c)) (hnc : n1 ≤ c) (h : partOv E k n off n1 sz lo hi mx = some r) :
    ∃ u, (Instr.sliceAt t (.slice ad n1 c) (lo.map a.eval) (hi.map a.eval) (mx.map a.eval)).run P w = .ok u w ∧ RT w ω κ σ r u := by
  unfold partOv at h
  split at h
  · cases h
  · obtain ⟨l, hl, h⟩ := Option.bind_eq_some_iff.1 h
    obtain ⟨hh, hhi, h⟩ := Option.bind_eq_some_iff.1 h
    split at h
    · rename_i hb
      obtain rfl := Option.some.inj h
      refine ⟨_, run_part (mx := none) hE he hl hhi ⟨hb.1, hb.2.1⟩ c (by omega) (Nat.le_refl _) (.inl ⟨rfl, rfl⟩) (fun h => absurd rfl h) hnc, ?_⟩
      refine .ov _ _ _ _ _ _ (by omega) (fun hn => ?_) fun o q hg hm => ⟨(hr o q hg hm).1, fun e => ?_⟩
      · have : ad = none := by
          split at hn
          · exact hn
          · simpa using hn
        have := hz this; omega
      obtain ⟨h1, h2, h3, h4⟩ := (hr o q hg hm).2 e
      refine ⟨by omega, by omega, fun hc => ?_, fun ho => ?_⟩
      · obtain ⟨b, l', c', h5, h6⟩ := h3 (by omega)
        refine ⟨b, l', c', h5, ?_⟩
        rw [if_neg (by omega), h6]
        simp only [Option.map_some]
        congr 1
        unfold Addr.add
        by_cases hz : l.toNat * sz = 0
        · simp [hz]
        · simp [hz]
      · have hl0 : l.toNat = 0 := by
          rcases Nat.eq_zero_or_pos l.toNat with h | h
          · exact h
          · have := Nat.mul_pos h hb.2.2.2; omega
        obtain ⟨l', h5⟩ := h4 (by omega)
        refine ⟨l', ?_⟩
        rw [hl0]
        simp only [Nat.sub_zero, Nat.zero_mul]
        rw [h5]
        split
        · rfl
        · cases ad <;> simp [Addr.add]
    · cases h

def evSlice (P : Program) (E : Env) (t : TypeId) (x : Operand) (lo hi mx : Option Operand) : Option TV :=
  match opd E x with
  | some (.c (.im (.sl n cs))) => (elOf P t).bind fun q => partOf E none n q.2 cs lo hi mx
  | some (.c (.ik c n cs)) => (elOf P t).bind fun q => partOf E (some c) n q.2 cs lo hi mx
  | some (.c .nl) => (elOf P t).bind fun q => partOf E (some 0) 0 q.2 [] lo hi mx
  | some (.c (.os k n)) => (elOf P t).bind fun q => partOv E k n 0 n q.2 lo hi mx
  | some (.c (.ov k n off m)) => (elOf P t).bind fun q => partOv E k n off m q.2 lo hi mx
  | some (.c (.im (.sc (.string s)))) =>
    match P.underlying t, mx with
    | some .string, none => (bnd E 0 lo).bind fun l => (bnd E s.size hi).bind fun h =>
      if 0 ≤ l ∧ l ≤ h ∧ h ≤ (s.size : Int) then some (.c (.im (.sc (.string (s.extract l.toNat h.toNat))))) else none
    | _, _ => none
  | _ => none

theorem partOf_ok {P : Program} (hE : EnvOk w ω κ σ E a.tmps) {t e : TypeId} {sz n c : Nat} {cap : Option Nat} {cs : List IV} {lo hi mx : Option Operand} {r : TV} {ad : Option Addr} (he : elOf P t = some (e, sz))
    (hcap : ∀ k, cap = some k → k = c) (hr : RI w ω (.sl n cs) (.slice ad n c)) (h : partOf E cap n sz cs lo hi mx = some r) :
    ∃ u, (Instr.sliceAt t (.slice ad n c) (lo.map a.eval) (hi.map a.eval) (mx.map a.eval)).run P w = .ok u w ∧ RT w ω κ σ r u := by
  unfold partOf at h
  obtain ⟨l, hl, h⟩ := Option.bind_eq_some_iff.1 h
  obtain ⟨hh, hhi, h⟩ := Option.bind_eq_some_iff.1 h
  obtain ⟨h1, h2, h3⟩ := elOf_some he
  split at h
  · rename_i hb
    have hnc : n ≤ c := by cases hr <;> omega
    have main : ∀ (m : Nat), hh.toNat ≤ m → m ≤ c →
        ((mx.map a.eval = none ∧ m = c) ∨ ∃ k, mx.map a.eval = some (.int k (m : Int))) → (mx ≠ none → hi ≠ none) →
        (Instr.sliceAt t (.slice ad n c) (lo.map a.eval) (hi.map a.eval) (mx.map a.eval)).run P w = .ok (sliced ad l.toNat hh.toNat m sz) w := by
      intro m hhm hmc hm hmx
      have hu : P.underlying t = some (.slice (P.elem t)) := by rw [h3]; exact h1
      rw [run_sliceAt_slice (h := hu), run_slice_any (ht := hu), run_bounds true n c l.toNat hh.toNat m _ _ _ hm hmc ?_ hhm ?_ (by omega)]
      · simp [Result.andThen, h3, run_sizeOf h2]
      · rcases bnd_ok hE hhi with ⟨rfl, rfl⟩ | ⟨y, k, rfl, hy⟩
        · refine .inl ⟨rfl, ?_, by simp⟩
          cases mx with
          | none => rfl
          | some q => exact absurd rfl (hmx (by simp))
        · exact .inr ⟨k, by simp [hy]; omega⟩
      · rcases bnd_ok hE hl with ⟨rfl, rfl⟩ | ⟨y, k, rfl, hy⟩
        · exact .inl ⟨rfl, rfl⟩
        · exact .inr ⟨k, by simp [hy]; omega⟩
    have good : ∀ (m : Nat), hh.toNat ≤ m → m ≤ c → ∃ ad', sliced ad l.toNat hh.toNat m sz = .slice ad' (hh.toNat - l.toNat) (m - l.toNat) ∧
        RI w ω (.sl (hh.toNat - l.toNat) ((cs.drop (l.toNat * sz)).take ((hh.toNat - l.toNat) * sz))) (.slice ad' (hh.toNat - l.toNat) (m - l.toNat)) := by
      intro m hhm hmc
      refine ⟨_, rfl, ?_⟩
      cases hr with
      | slnil =>
        have : hh.toNat = 0 := by omega
        have : m = 0 := by omega
        have : l.toNat = 0 := by omega
        simp [*]
        exact .slnil
      | sl _ _ _ ad vs hd hn hm hcell hri =>
        by_cases hml : m = l.toNat
        · have h0 : hh.toNat - l.toNat = 0 := by omega
          rw [if_pos hml, h0]
          refine .sl _ _ _ ad vs (fun h => absurd (by simp) h) (by omega) (by omega) (fun j hj => by simp at hj) (fun j x hj => by simp at hj)
        · rw [if_neg hml]
          refine .sl _ _ _ (ad.add (l.toNat * sz)) (fun j => vs (l.toNat * sz + j)) (fun h => by rw [addr_add_block]; exact hd (by rintro rfl; simp at h)) (by omega) (by omega) (fun j hj => ?_) (fun j x hj => ?_)
          · rw [addr_add_add]; exact hcell _ (by simp at hj; omega)
          · have hlt : j < (hh.toNat - l.toNat) * sz := by
              have := (List.getElem?_eq_some_iff.1 hj).1
              simp at this; omega
            rw [List.getElem?_take_of_lt hlt, List.getElem?_drop] at hj
            exact hri _ _ hj
    cases mx with
    | none =>
      have hrun := main c (by omega) (Nat.le_refl _) (.inl ⟨rfl, rfl⟩) (fun h => absurd rfl h)
      obtain ⟨ad', e1, e2⟩ := good c (by omega) (Nat.le_refl _)
      rw [e1] at hrun
      refine ⟨_, hrun, ?_⟩
      simp only at h
      split at h
      · obtain rfl := Option.some.inj h; exact .im _ _ e2
      · obtain rfl := Option.some.inj h
        rw [hcap _ rfl]; exact .ik _ _ _ _ e2
    | some q =>
      simp only at h
      split at h
      · cases h
      · rename_i hne
        obtain ⟨m, hm, h⟩ := Option.bind_eq_some_iff.1 h
        split at h
        · rename_i hmb
          obtain rfl := Option.some.inj h
          rcases bnd_ok hE hm with ⟨h', _⟩ | ⟨y, k, hy, hyv⟩
          · cases h'
          · obtain rfl := Option.some.inj hy
            have hrun := main m.toNat (by omega) (by omega) (.inr ⟨k, by simp [hyv]; omega⟩) (fun _ => hne)
            obtain ⟨ad', e1, e2⟩ := good m.toNat (by omega) (by omega)
            rw [e1] at hrun
            exact ⟨_, hrun, .ik _ _ _ _ e2⟩
        · cases h
  · cases h
theorem os_cap (hS : RS w ω κ σ) {k n c : Nat} {ad : Option Addr} {o : Ob} (hg : get σ k = some o) (hm : o.len? = some n) (hk : κ k = .slice ad n c) : OvOk (κ k) 0 ad n c := by
  have hob := hS.ob k o hg
  cases o with
  | box => cases hm
  | map => cases hm
  | gl => cases hm
  | vec t e n' cs own =>
    obtain rfl := Option.some.inj hm
    obtain ⟨_, xs, how, _⟩ := hob
    rw [hk] at how ⊢
    obtain ⟨a', c', q, h1, h2, _⟩ := how.slice
    injection q with q1 q2 q3
    subst q1; subst q3
    refine ⟨h1, h2, fun hc => ?_, fun _ => ⟨_, rfl⟩⟩
    rcases how.2 with ⟨_, a, hv⟩ | ⟨g, cap, cur, hv, _⟩
    · injection hv with _ _ q; omega
    · injection hv with q1 q2 q3; exact ⟨g, _, _, by rw [q1], q1⟩
  | row n' cs =>
    obtain rfl := Option.some.inj hm
    obtain ⟨S, hr, _⟩ := hob
    rw [hk] at hr ⊢
    cases hr with
    | z => exact ⟨Nat.le_refl _, by simp [maxLen], fun h => by omega, fun _ => ⟨_, rfl⟩⟩
    | sl _ _ g _ _ _ _ _ _ _ h1 h2 => exact ⟨h1, h2, fun _ => ⟨g, _, _, rfl, rfl⟩, fun _ => ⟨_, rfl⟩⟩
theorem evSlice_ok {P : Program} (hS : RS w ω κ σ) (hE : EnvOk w ω κ σ E a.tmps) {t : TypeId} {x : Operand} {lo hi mx : Option Operand} {r : TV} (h : evSlice P E t x lo hi mx = some r) :
    ∃ u, (Instr.sliceAt t (a.eval x) (lo.map a.eval) (hi.map a.eval) (mx.map a.eval)).run P w = .ok u w ∧ RT w ω κ σ r u := by
  unfold evSlice at h
  split at h
  · rename_i n cs hx
    obtain ⟨⟨e, sz⟩, he, h⟩ := Option.bind_eq_some_iff.1 h
    have hxv := opd_ok hE hx
    generalize a.eval x = v at hxv
    cases hxv with
    | im _ _ hr =>
      have hv : ∃ ad c, v = .slice ad n c := by cases hr <;> exact ⟨_, _, rfl⟩
      obtain ⟨ad, c, rfl⟩ := hv
      exact partOf_ok hE he (by simp) hr h
  · rename_i c n cs hx
    obtain ⟨⟨e, sz⟩, he, h⟩ := Option.bind_eq_some_iff.1 h
    have hxv := opd_ok hE hx
    generalize a.eval x = v at hxv
    cases hxv with
    | ik _ _ _ ad hr => exact partOf_ok hE he (fun k hk => (Option.some.inj hk).symm) hr h
  · rename_i hx
    obtain ⟨⟨e, sz⟩, he, h⟩ := Option.bind_eq_some_iff.1 h
    have hxv := opd_ok hE hx
    generalize a.eval x = v at hxv
    cases hxv with
    | nl => exact partOf_ok (ω := ω) hE he (fun k hk => (Option.some.inj hk).symm) .slnil h
  · rename_i k n hx
    obtain ⟨⟨e, sz⟩, he, h⟩ := Option.bind_eq_some_iff.1 h
    have hxv := opd_ok hE hx
    generalize a.eval x = v at hxv
    cases hxv with
    | os _ _ ad c hnc hz hr => exact partOv_ok hE he hz (fun o l hg hm => ⟨(hr o l hg hm).1, fun e => by subst e; exact os_cap hS hg hm ((hr o _ hg hm).2 rfl)⟩) hnc h
  · rename_i k n off m hx
    obtain ⟨⟨e, sz⟩, he, h⟩ := Option.bind_eq_some_iff.1 h
    have hxv := opd_ok hE hx
    generalize a.eval x = v at hxv
    cases hxv with
    | ov _ _ _ _ ad c hnc hz hr => exact partOv_ok hE he hz hr hnc h
  · rename_i s hx
    split at h
    · rename_i hu
      obtain ⟨l, hl, h⟩ := Option.bind_eq_some_iff.1 h
      obtain ⟨hh, hhi, h⟩ := Option.bind_eq_some_iff.1 h
      split at h
      · rename_i hb
        obtain rfl := Option.some.inj h
        have hxv := opd_ok hE hx
        generalize a.eval x = v at hxv
        cases hxv with
        | im _ _ hxv =>
          cases hxv
          refine ⟨_, ?_, .im _ _ (.sc _ rfl)⟩
          rw [run_sliceAt_string (h := hu)]
          have hbd := run_bounds (P := P) false s.size s.size l.toNat hh.toNat s.size (lo.map a.eval) (hi.map a.eval) none (.inl ⟨rfl, rfl⟩) (Nat.le_refl _) (by
            rcases bnd_ok hE hhi with ⟨rfl, rfl⟩ | ⟨y, k, rfl, hy⟩
            · exact .inl ⟨rfl, rfl, by simp⟩
            · exact .inr ⟨k, by simp [hy]; omega⟩) (by omega) (by
            rcases bnd_ok hE hl with ⟨rfl, rfl⟩ | ⟨y, k, rfl, hy⟩
            · exact .inl ⟨rfl, rfl⟩
            · exact .inr ⟨k, by simp [hy]; omega⟩) (by omega) w
          simp [Instr.slice, run_underlying hu, hbd]
      · cases h
    · cases h
  · cases h

def evLen (P : Program) (t : TypeId) (x : TV) : Option TV :=
  match P.underlying t, x with
  | some (.slice _), .c .nl => some (.c (.im (.sc (.int .i64 0))))
  | some (.slice _), .c (.ik _ n _) => some (.c (.im (.sc (.int .i64 (n : Int)))))
  | some (.slice _), .c (.im (.sl n _)) => some (.c (.im (.sc (.int .i64 (n : Int)))))
  | some (.slice _), .c (.os _ n) => some (.c (.im (.sc (.int .i64 (n : Int)))))
  | some (.slice _), .c (.ov _ _ _ n) => some (.c (.im (.sc (.int .i64 (n : Int)))))
  | some .string, .c (.im (.sc (.string s))) => some (.c (.im (.sc (.int .i64 (s.size : Int)))))
  | _, _ => none
theorem evLen_ok {P : Program} {t ty : TypeId} {x r : TV} {v : Value} (h : evLen P t x = some r) (hx : RT w ω κ σ x v) : ∃ u, (Builtin.len_ #[t] ty #[v]).run P w = .ok u w ∧ RT w ω κ σ r u := by
  unfold evLen at h
  split at h
  · rename_i e hu
    obtain rfl := Option.some.inj h
    cases hx; exact ⟨_, by simp [Builtin.len_, run_underlying hu, goInt], .im _ _ (.sc _ rfl)⟩
  · rename_i e c n cs hu
    obtain rfl := Option.some.inj h
    cases hx with | ik => exact ⟨_, by simp [Builtin.len_, run_underlying hu, goInt], .im _ _ (.sc _ rfl)⟩
  · rename_i e n cs hu
    obtain rfl := Option.some.inj h
    cases hx with
    | im _ _ hx => cases hx <;> exact ⟨_, by simp [Builtin.len_, run_underlying hu, goInt], .im _ _ (.sc _ rfl)⟩
  · rename_i e k n hu
    obtain rfl := Option.some.inj h
    cases hx with | os => exact ⟨_, by simp [Builtin.len_, run_underlying hu, goInt], .im _ _ (.sc _ rfl)⟩
  · rename_i e k n1 off n hu
    obtain rfl := Option.some.inj h
    cases hx with | ov => exact ⟨_, by simp [Builtin.len_, run_underlying hu, goInt], .im _ _ (.sc _ rfl)⟩
  · rename_i s hu
    obtain rfl := Option.some.inj h
    cases hx with | im _ _ hx => cases hx; exact ⟨_, by simp [Builtin.len_, run_underlying hu, goInt], .im _ _ (.sc _ rfl)⟩
  · cases h

def evConv (P : Program) (src dst : TypeId) (x : TV) : Option TV :=
  match x with
  | .c (.im (.sc (.int _ n))) => match P.underlying src, P.underlying dst with
    | some _, some (.int k) => some (.c (.im (.sc (.int k (k.wrap n)))))
    | _, _ => none
  | .c (.im (.sc (.string s))) => match P.underlying src, P.underlying dst with
    | some .string, some .string => some (.c (.im (.sc (.string s))))
    | _, _ => none
  | _ => none
theorem evConv_ok {P : Program} {src dst : TypeId} {x r : TV} {v : Value} (h : evConv P src dst x = some r) (hx : RT w ω κ σ x v) : ∃ u, (convert src dst v).run P w = .ok u w ∧ RT w ω κ σ r u := by
  unfold evConv at h
  split at h
  · split at h
    · rename_i d k hs hd
      obtain rfl := Option.some.inj h
      cases hx with | im _ _ hx => cases hx; exact ⟨_, by simp [convert, run_underlying hs, run_underlying hd, Conv.intToInt], .im _ _ (.sc _ rfl)⟩
    · cases h
  · split at h
    · rename_i hs hd
      obtain rfl := Option.some.inj h
      cases hx with | im _ _ hx => cases hx; exact ⟨_, by simp [convert, run_underlying hs, run_underlying hd], .im _ _ (.sc _ rfl)⟩
    · cases h
  · cases h

/-- Bytes as a string. -/
def byL : List IV → Option (List Int)
  | [] => some []
  | .sc (.int .u8 n) :: r => (byL r).map (n :: ·)
  | _ => none
def byStr : List Int → ByteArray := fun l => l.foldl (fun r n => r.push (UInt8.ofNat n.toNat)) ByteArray.empty
theorem byStr_size (l : List Int) : (byStr l).size = l.length := by
  have : ∀ (l : List Int) (s : ByteArray), (l.foldl (fun r n => r.push (UInt8.ofNat n.toNat)) s).size = s.size + l.length := fun l => by
    induction l with
    | nil => intro s; rfl
    | cons a r ih => intro s; rw [List.foldl_cons, ih, ByteArray.size_push, List.length_cons]; omega
  unfold byStr
  rw [this]; simp
def byRow (σ : Sto) : TV → Option (Nat × List IV)
  | .c (.os k n) => match get σ k with | some (.vec _ e m cs _) => if e = 1 ∧ m = n then some (n, cs) else none | _ => none
  | .c (.ik _ n cs) => some (n, cs)
  | _ => none
def evBytes (P : Program) (σ : Sto) (src dst : TypeId) (x : TV) : Option TV :=
  match P.underlying src, P.underlying dst with
  | some (.slice e), some .string => match P.underlying e with
    | some (.int .u8) => (byRow σ x).bind fun p => if p.2.length = p.1 then (byL p.2).map fun l => .c (.im (.sc (.string (byStr l)))) else none
    | _ => none
  | _, _ => none
theorem byL_get : ∀ {cs : List IV} {l : List Int}, byL cs = some l → cs = l.map fun n => .sc (.int .u8 n)
  | [], l, h => by obtain rfl := Option.some.inj h; rfl
  | x :: r, l, h => by
    cases x with
    | sc v =>
      cases v with
      | int k n =>
        cases k with
        | u8 =>
          simp only [byL] at h
          obtain ⟨l', h1, rfl⟩ := Option.map_eq_some_iff.1 h
          rw [byL_get h1]; rfl
        | _ => simp [byL] at h
      | _ => simp [byL] at h
    | _ => simp [byL] at h
theorem conv_bytes {P : Program} {src dst e : TypeId} (hs : P.underlying src = some (.slice e)) (he : P.underlying e = some (.int .u8)) (hd : P.underlying dst = some .string) {ad : Option Addr} {n c : Nat} {l : List Int} (hl : l.length = n) (hn : ad = none → n = 0)
    (hcell : ∀ b, ad = some b → ∀ j m, l[j]? = some m → w.cell? (b.add j) = some (.int .u8 m)) : (convert src dst (.slice ad n c)).run P w = .ok (.string (byStr l)) w := by
  rw [run_convert_bytes_string w src dst e ad n c hs he hd]
  cases ad with
  | none =>
    have : l = [] := List.eq_nil_of_length_eq_zero (by rw [hl]; exact hn rfl)
    subst this
    simp [Conv.bytesToString, byStr]
  | some b =>
    refine run_bytesToString w b n c l ?_
    have := run_loadCells_list (P := P) w b (l.map (Value.int .u8)) fun j v hv => by
      rw [List.getElem?_map] at hv
      obtain ⟨m, hm, rfl⟩ := Option.map_eq_some_iff.1 hv
      exact hcell b rfl j m hm
    rwa [List.length_map, hl] at this
theorem evBytes_ok {P : Program} (hS : RS w ω κ σ) {src dst : TypeId} {x r : TV} {v : Value} (h : evBytes P σ src dst x = some r) (hx : RT w ω κ σ x v) : ∃ u, (convert src dst v).run P w = .ok u w ∧ RT w ω κ σ r u := by
  unfold evBytes at h
  split at h
  · rename_i e hs hd
    split at h
    · rename_i he
      obtain ⟨⟨n, cs⟩, hb, h⟩ := Option.bind_eq_some_iff.1 h
      simp only at h
      split at h
      · rename_i hlen
        obtain ⟨l, hl, rfl⟩ := Option.map_eq_some_iff.1 h
        have hcs := byL_get hl
        have hll : l.length = n := by rw [← hlen, hcs, List.length_map]
        unfold byRow at hb
        split at hb
        · rename_i k n'
          split at hb
          · rename_i t e' m cs' own hk
            split at hb
            · rename_i hc
              obtain ⟨rfl, rfl⟩ := hc
              injection hb with hb; injection hb with q1 q2
              subst q1; subst q2
              cases hx with
              | os _ _ ad c h1 h2 hh =>
                have hkk := (hh _ _ hk rfl).2 rfl
                obtain ⟨h0, xs, hR, _, hC⟩ := hS.ob k _ hk
                have hxs : ∀ (j : Nat) (q : Int), l[j]? = some q → xs[j]? = some (Value.int .u8 q) := fun j q hq => by
                  have hc : cs'[j]? = some (IV.sc (.int .u8 q)) := by rw [hcs, List.getElem?_map, hq]; rfl
                  unfold CellsOk at hC
                  split at hC
                  · obtain ⟨g0, Ss, g1, _⟩ := hC
                    have hj : j < xs.length := by rw [← g0]; exact (List.getElem?_eq_some_iff.1 hc).1
                    have := g1 j _ xs[j] hc (by simp [hj])
                    generalize hv : xs[j] = v at this
                    cases this
                    rw [List.getElem?_eq_getElem hj, hv]
                  · obtain ⟨u, hu, hr⟩ := hC.get hc
                    cases hr
                    exact hu
                refine ⟨_, conv_bytes hs he hd hll (fun e => ?_) (fun b e j q hq => ?_), .im _ _ (.sc _ rfl)⟩
                · have := h2 e; omega
                · subst e
                  exact hR.cells b _ c hkk j _ (hxs j q hq)
            · cases hb
          · cases hb
        · rename_i c n' cs'
          injection hb with hb; injection hb with q1 q2
          subst q1; subst q2
          cases hx with
          | ik _ _ _ ad hx =>
            cases hx with
            | slnil =>
              refine ⟨_, conv_bytes hs he hd hll (fun _ => rfl) (fun b e => by cases e), .im _ _ (.sc _ rfl)⟩
            | sl _ _ _ a vs g1 g2 g3 g4 g5 =>
              refine ⟨_, conv_bytes hs he hd hll (fun e => by cases e) (fun b e j q hq => ?_), .im _ _ (.sc _ rfl)⟩
              obtain rfl := Option.some.inj e
              have hc : cs'[j]? = some (IV.sc (.int .u8 q)) := by rw [hcs, List.getElem?_map, hq]; rfl
              rw [g4 j (List.getElem?_eq_some_iff.1 hc).1]
              have := g5 j _ hc
              generalize vs j = u at this
              cases this
              rfl
        · cases hb
      · cases h
    · cases h
  · cases h

/-- Functions with what they capture. -/
def opcs (E : Env) : List Operand → Option (List Cell)
  | [] => some []
  | x :: r => match opd E x with | some (.c y) => (opcs E r).map (y :: ·) | _ => none
theorem opcs_ok (hE : EnvOk w ω κ σ E a.tmps) : ∀ {xs : List Operand} {cs : List Cell}, opcs E xs = some cs → (xs.map a.eval).length = cs.length ∧ ∀ j c, cs[j]? = some c → RC w ω κ σ c ((xs.map a.eval).getD j undef)
  | [], cs, h => by obtain rfl := Option.some.inj h; simp
  | x :: r, cs, h => by
    simp only [opcs] at h
    split at h
    · rename_i y hy
      obtain ⟨cs', hc, rfl⟩ := Option.map_eq_some_iff.1 h
      obtain ⟨h1, h2⟩ := opcs_ok hE hc
      refine ⟨by simpa using h1, fun j c hj => ?_⟩
      cases j with
      | zero => simp at hj; subst hj; exact opd_ok hE hy
      | succ j => exact h2 j c (by simpa using hj)
    · cases h

/-- A pointer that leads somewhere. -/
def isPtr : Cell → Bool
  | .rf _ _ | .rv _ _ _ | .im (.pt _) => true
  | _ => false
theorem isPtr_ok {x : Cell} {v : Value} (h : isPtr x = true) (hx : RC w ω κ σ x v) : ∃ a, v = .pointer (some a) := by
  cases hx with
  | im x v hx => cases hx <;> first | exact ⟨_, rfl⟩ | cases h
  | rf => exact ⟨_, rfl⟩
  | rv => exact ⟨_, rfl⟩
  | _ => cases h
def ptrNil (P : Program) (t : TypeId) (op : BinOp) : Option TV :=
  match P.underlying t, op with
  | some (.pointer _), .eql => some (.c (.im (.sc (.bool false))))
  | some (.pointer _), .neq => some (.c (.im (.sc (.bool true))))
  | _, _ => none
theorem ptrNil_ok {P : Program} {t : TypeId} {op : BinOp} {r : TV} (h : ptrNil P t op = some r) (a : Addr) (w : World) : ∃ b, r = .c (.im (.sc (.bool b))) ∧ (binOp op t (.pointer (some a)) (.pointer none)).run P w = .ok (.bool b) w ∧ (op = .eql ∨ op = .neq) := by
  unfold ptrNil at h
  split at h
  · rename_i e hu
    obtain rfl := Option.some.inj h
    exact ⟨_, rfl, by rw [run_eql_pointer_nil _ _ _ (by simp [Program.pointee, hu])]; rfl, .inl rfl⟩
  · rename_i e hu
    obtain rfl := Option.some.inj h
    exact ⟨_, rfl, by rw [run_neq_pointer_nil _ _ _ (by simp [Program.pointee, hu])]; rfl, .inr rfl⟩
  · cases h
/-- A map type's kind of keys, its elements' zero value. -/
def mpOf (P : Program) (t : TypeId) : Option (TypeDesc × Value) := match P.underlying t with
  | some (.map k e) => match P.underlying k, P.info? e with
    | some d, some i => i.zero.map fun z => (d, z)
    | _, _ => none
  | _ => none
def keyD : TypeDesc → Value → Bool
  | .bool, .bool _ => true
  | .int k, .int k' _ => decide (k' = k)
  | .string, .string _ => true
  | _, _ => false
theorem keyD_ok {d : TypeDesc} {v : Value} (h : keyD d v = true) : MapKept.IsKey d v := by
  cases d <;> cases v <;> simp_all [keyD, MapKept.IsKey]
theorem keyD_eq {d d' : TypeDesc} {v : Value} (h : keyD d v = true) (h' : keyD d' v = true) : d' = d := by
  cases d <;> cases v <;> simp [keyD] at h <;> cases d' <;> simp [keyD] at h' <;> simp_all
/-- What a map holds for a key. -/
def mget (f : Value → Option Value) (v z : Value) : Value := (f v).getD z
def evLook (P : Program) (σ : Sto) (t : TypeId) (m k : TV) (ok : Bool) : Option TV := match mpOf P t, m, k with
  | some (d, z), .c (.mp j), .c (.im (.sc key)) => match get σ j with
    | some (.map d' f) => if keyD d key = true ∧ keyD d' key = true ∧ scalarB z = true then some (if ok then .tp [.c (.im (.sc (mget f key z))), .c (.im (.sc (.bool (f key).isSome)))] else .c (.im (.sc (mget f key z)))) else none
    | _ => none
  | _, _, _ => none
theorem mpOf_some {P : Program} {t : TypeId} {d : TypeDesc} {z : Value} (h : mpOf P t = some (d, z)) : ∃ k e i, P.underlying t = some (.map k e) ∧ P.underlying k = some d ∧ P.info? e = some i ∧ i.zero = some z := by
  unfold mpOf at h
  split at h
  · rename_i k e hu
    split at h
    · rename_i d' i hk hi
      obtain ⟨z', hz, q⟩ := Option.map_eq_some_iff.1 h
      obtain ⟨rfl, rfl⟩ := Prod.mk.inj q
      exact ⟨k, e, i, hu, hk, hi, hz⟩
    · cases h
  · cases h
theorem evLook_ok {P : Program} (hS : RS w ω κ σ) {t : TypeId} {m k r : TV} {ok : Bool} {v u : Value} (h : evLook P σ t m k ok = some r) (hm : RT w ω κ σ m v) (hk : RT w ω κ σ k u) :
    ∃ y, (Instr.lookup t v u ok).run P w = .ok y w ∧ RT w ω κ σ r y := by
  unfold evLook at h
  split at h
  · rename_i d z j key hmp
    split at h
    · rename_i d' f hj
      split at h
      · rename_i hc
        obtain ⟨h1, h2, h3⟩ := hc
        obtain rfl := Option.some.inj h
        obtain rfl := keyD_eq h1 h2
        obtain ⟨kt, e, i, g1, g2, g3, g4⟩ := mpOf_some hmp
        have hkey := keyD_ok h1
        obtain ⟨r, es, clock, q1, q2, q3, q4, q5, q6⟩ := hS.ob j _ hj
        cases hm with
        | mp _ r' hr' =>
          rw [hr'] at q1
          obtain rfl : r' = r := by injection q1 with q1; exact Option.some.inj q1
          have hku : u = key := by
            cases hk with
            | im _ _ hk => cases hk; rfl
          rw [hku]
          have hck := fun b n => MapKept.run_checkKey (w := w) g2 hkey b n
          rcases MapKept.findNow_spec hkey es.toList 0 (fun x hx => (q5 x hx).1) with ⟨e1, e2⟩ | ⟨i', e, e1, e2, e3⟩
          · have hf : f key = none := by
              cases hfk : f key with
              | none => rfl
              | some x => obtain ⟨e, h4, h5, _⟩ := (q6 key x).1 hfk; exact absurd h5 (e2 e h4)
            have hfind := MapKept.run_findKey (w := w) g2 e1
            refine ⟨if ok then .tuple #[z, .bool false] else z, by simp [Instr.lookup, run_underlying g1, MapKept.run_getObj_map q3, hck, hfind, zeroValue, typeInfo, g3, g4, Result.andThen], ?_⟩
            unfold mget
            rw [hf]
            cases ok with
            | false => exact .im _ _ (.sc _ h3)
            | true =>
              refine ⟨[z, .bool false], rfl, rfl, fun n x y hx hy => ?_⟩
              rcases n with _ | _ | n
              · simp at hx hy; subst hx; subst hy; exact .im _ _ (.sc _ h3)
              · simp at hx hy; subst hx; subst hy; exact .im _ _ (.sc _ rfl)
              · simp at hx
          · have hmem : e ∈ es.toList := List.mem_of_getElem? e2
            have hf : f key = some e.val := (q6 key e.val).2 ⟨e, hmem, e3, rfl⟩
            have hfind := MapKept.run_findKey (w := w) g2 e1
            have hsv := (q5 e hmem).2
            refine ⟨if ok then .tuple #[e.val, .bool true] else e.val, by simp [Instr.lookup, run_underlying g1, MapKept.run_getObj_map q3, hck, hfind, Result.andThen], ?_⟩
            unfold mget
            rw [hf]
            cases ok with
            | false => exact .im _ _ (.sc _ hsv)
            | true =>
              refine ⟨[e.val, .bool true], rfl, rfl, fun n x y hx hy => ?_⟩
              rcases n with _ | _ | n
              · simp at hx hy; subst hx; subst hy; exact .im _ _ (.sc _ hsv)
              · simp at hx hy; subst hx; subst hy; exact .im _ _ (.sc _ rfl)
              · simp at hx
      · cases h
    · cases h
  · cases h
/-- What an operation that changes no memory comes to. -/
def ev1 (P : Program) (E : Env) (σ : Sto) : Op → Option TV
  | .move x => opd E x
  | .assign x => opd E x
  | .pick c x y => match opd E c with | some (.c (.im (.sc (.bool b)))) => if b then opd E x else opd E y | _ => none
  | .load t x => (opd E x).bind fun p => evLoad P σ t p
  | .field t x f => (opd E x).bind fun p => evField P t p f
  | .fieldAddr t x f => (opd E x).bind fun p => evFieldAddr P t p f
  | .indexAddr t x i => (opd E x).bind fun p => (opd E i).bind fun j => evIndexAddr P σ t p j
  | .index t x i => (opd E x).bind fun p => (opd E i).bind fun j => evIndex P t p j
  | .build t ps => evBuild P E t ps
  | .extract x i => (opd E x).bind fun p => evExtract p i
  | .nilCheck x => match opd E x with
    | some (.c (.rf k o)) => some (.c (.rf k o))
    | some (.c (.rv k l o)) => some (.c (.rv k l o))
    | some (.c (.im (.pt cs))) => some (.c (.im (.pt cs)))
    | _ => none
  | .unOp op _ x => match op, opd E x with
    | .not, some (.c (.im (.sc (.bool b)))) => some (.c (.im (.sc (.bool (!b)))))
    | .neg, some (.c (.im (.sc (.int k n)))) => some (.c (.im (.sc (.int k (k.wrap (0 - n))))))
    | _, _ => none
  | .binOp op t x y _ => match opd E x, opd E y with
    | some (.c (.im (.sc u))), some (.c (.im (.sc v))) => (evBin P t op u v).map fun r => .c (.im (.sc r))
    | some (.c x), some (.c (.im (.sc (.pointer none)))) => if isPtr x then ptrNil P t op else none
    | _, _ => none
  | .convert s d x => (opd E x).bind fun p => (evConv P s d p).or (evBytes P σ s d p)
  | .slice t x lo hi mx => evSlice P E t x lo hi mx
  | .makeFunc (.func f) first caps => if first.size = 0 then (opcs E caps.toList).map fun cs => .c (.fn f cs) else none
  | .lookup t m k ok => (opd E m).bind fun p => (opd E k).bind fun q => evLook P σ t p q ok
  | .call c => match c.callee, c.args.toList, c.argTypes.toList with
    | .builtin .len, [x], [t] => (opd E x).bind fun p => evLen P t p
    | .builtin .max, [x, y], _ => match opd E x, opd E y with
      | some (.c (.im (.sc (.int k i)))), some (.c (.im (.sc (.int _ j)))) => some (.c (.im (.sc (.int k (if i < j then j else i)))))
      | _, _ => none
    | .builtin .min, [x, y], _ => match opd E x, opd E y with
      | some (.c (.im (.sc (.int k i)))), some (.c (.im (.sc (.int _ j)))) => some (.c (.im (.sc (.int k (if j < i then j else i)))))
      | _, _ => none
    | _, _, _ => none
  | _ => none

theorem ev1_ok {P : Program} (hS : RS w ω κ σ) (hE : EnvOk w ω κ σ E a.tmps) {o : Oper} {r : TV} (h : ev1 P E σ o.op = some r) :
    ∃ u, (execOp a.eval o).run P w = .ok (.value u) w ∧ RT w ω κ σ r u := by
  unfold ev1 at h
  split at h <;> rename_i hop
  · exact ⟨_, by simp only [execOp, hop]; rfl, opd_ok hE h⟩
  · exact ⟨_, by simp only [execOp, hop]; rfl, opd_ok hE h⟩
  · rename_i c x y
    split at h
    · rename_i b hc
      have hcv := opd_ok hE hc
      generalize hv : a.eval c = v at hcv
      cases hcv with
      | im _ _ hcv =>
        cases hcv
        refine ⟨if b then a.eval x else a.eval y, by simp [execOp, hop, hv, asBool], ?_⟩
        cases b
        · exact opd_ok hE (by simpa using h)
        · exact opd_ok hE (by simpa using h)
    · cases h
  · obtain ⟨p, hp, h⟩ := Option.bind_eq_some_iff.1 h
    obtain ⟨u, h1, h2⟩ := evLoad_ok hS h (opd_ok hE hp)
    exact ⟨u, by simp [execOp, hop, h1], h2⟩
  · obtain ⟨p, hp, h⟩ := Option.bind_eq_some_iff.1 h
    obtain ⟨u, h1, h2⟩ := evField_ok (P := P) h (opd_ok hE hp)
    exact ⟨u, by simp [execOp, hop, h1], h2⟩
  · obtain ⟨p, hp, h⟩ := Option.bind_eq_some_iff.1 h
    obtain ⟨u, h1, h2⟩ := evFieldAddr_ok (P := P) h (opd_ok hE hp)
    exact ⟨u, by simp [execOp, hop, h1], h2⟩
  · obtain ⟨p, hp, h⟩ := Option.bind_eq_some_iff.1 h
    obtain ⟨j, hj, h⟩ := Option.bind_eq_some_iff.1 h
    obtain ⟨u, h1, h2⟩ := evIndexAddr_ok hS h (opd_ok hE hp) (opd_ok hE hj)
    exact ⟨u, by simp [execOp, hop, h1], h2⟩
  · obtain ⟨p, hp, h⟩ := Option.bind_eq_some_iff.1 h
    obtain ⟨j, hj, h⟩ := Option.bind_eq_some_iff.1 h
    obtain ⟨u, h1, h2⟩ := evIndex_ok (P := P) h (opd_ok hE hp) (opd_ok hE hj)
    exact ⟨u, by simp [execOp, hop, h1], h2⟩
  · obtain ⟨u, h1, h2⟩ := evBuild_ok (P := P) hE h
    exact ⟨u, by simp only [execOp, hop]; simp [h1], h2⟩
  · obtain ⟨p, hp, h⟩ := Option.bind_eq_some_iff.1 h
    obtain ⟨u, h1, h2⟩ := evExtract_ok (P := P) h (opd_ok hE hp)
    exact ⟨u, by simp [execOp, hop, h1], h2⟩
  · rename_i x
    split at h
    · rename_i k o hx
      obtain rfl := Option.some.inj h
      have hxv := opd_ok hE hx
      generalize hv : a.eval x = v at hxv
      have hxv' := hxv
      cases hxv with
      | rf => exact ⟨_, by simp [execOp, hop, hv], hxv'⟩
    · rename_i k l o hx
      obtain rfl := Option.some.inj h
      have hxv := opd_ok hE hx
      generalize hv : a.eval x = v at hxv
      have hxv' := hxv
      cases hxv with
      | rv => exact ⟨_, by simp [execOp, hop, hv], hxv'⟩
    · rename_i cs hx
      obtain rfl := Option.some.inj h
      have hxv := opd_ok hE hx
      generalize hv : a.eval x = v at hxv
      have hxv' := hxv
      cases hxv with
      | im _ _ hp => cases hp; exact ⟨_, by simp [execOp, hop, hv], hxv'⟩
    · cases h
  · rename_i op ty x
    split at h
    · rename_i b hx
      obtain rfl := Option.some.inj h
      have hxv := opd_ok hE hx
      generalize hv : a.eval x = v at hxv
      cases hxv with
      | im _ _ hp => cases hp; exact ⟨_, by simp [execOp, hop, hv, Op.unary], .im _ _ (.sc _ rfl)⟩
    · rename_i k n hx
      obtain rfl := Option.some.inj h
      have hxv := opd_ok hE hx
      generalize hv : a.eval x = v at hxv
      cases hxv with
      | im _ _ hp => cases hp; exact ⟨_, by simp only [execOp, hop, hv, Op.unary, Op.intArith]; rfl, .im _ _ (.sc _ rfl)⟩
    · cases h
  · rename_i op t x y yt
    split at h
    · rename_i u v hx hy
      obtain ⟨r', hr, rfl⟩ := Option.map_eq_some_iff.1 h
      have hxv := opd_ok hE hx
      have hyv := opd_ok hE hy
      obtain ⟨h1, h2⟩ := evBin_ok (P := P) hr w
      generalize hv : a.eval x = vx at hxv
      generalize hw : a.eval y = vy at hyv
      cases hxv with
      | im _ _ hp =>
        cases hp
        cases hyv with
        | im _ _ hq =>
          cases hq
          refine ⟨_, ?_, .im _ _ (.sc _ h2)⟩
          have hg : eqGuard op t x y u v = pure () := by
            unfold eqGuard
            cases op <;> first | rfl | skip
            all_goals (cases u <;> cases v <;> first | rfl | (simp [evBin] at hr; done))
          simp only [execOp, hop, hv, hw, hg]
          simp [h1]
    · rename_i u hne hx hy
      split at h
      · rename_i hp
        have hxv := opd_ok hE hx
        have hyv := opd_ok hE hy
        obtain ⟨ad, had⟩ := isPtr_ok hp hxv
        obtain ⟨b, rfl, hr, hop'⟩ := ptrNil_ok (w := w) h ad
        generalize hw : a.eval y = vy at hyv
        cases hyv with
        | im _ _ hq =>
          cases hq
          refine ⟨_, ?_, .im _ _ (.sc _ rfl)⟩
          have hg : eqGuard op t x y (.pointer (some ad)) (.pointer none) = pure () := by
            rcases hop' with rfl | rfl <;> rfl
          simp only [execOp, hop, had, hw, hg]
          simp [hr]
      · cases h
    · cases h
  · obtain ⟨p, hp, h⟩ := Option.bind_eq_some_iff.1 h
    obtain ⟨u, h1, h2⟩ : ∃ u, (convert _ _ _).run P w = .ok u w ∧ RT w ω κ σ r u := by
      rcases Option.or_eq_some_iff.1 h with h | ⟨_, h⟩
      · exact evConv_ok (P := P) h (opd_ok hE hp)
      · exact evBytes_ok (P := P) hS h (opd_ok hE hp)
    exact ⟨u, by simp [execOp, hop, h1], h2⟩
  · obtain ⟨u, h1, h2⟩ := evSlice_ok (P := P) hS hE h
    exact ⟨u, by simp only [execOp, hop]; simp [h1], h2⟩
  · rename_i f first caps
    split at h
    · rename_i hf
      obtain ⟨cs, hc, rfl⟩ := Option.map_eq_some_iff.1 h
      obtain ⟨h1, h2⟩ := opcs_ok hE hc
      have hf0 : first = #[] := by simpa using hf
      refine ⟨.func (.func f) #[] (caps.toList.map a.eval).toArray, ?_, .fn f cs _ h1 h2⟩
      have e : caps.map a.eval = (caps.toList.map a.eval).toArray := by apply Array.ext'; simp
      simp [execOp, hop, Instr.makeFunc, hf0, e]
    · cases h
  · obtain ⟨p, hp, h⟩ := Option.bind_eq_some_iff.1 h
    obtain ⟨q, hq, h⟩ := Option.bind_eq_some_iff.1 h
    obtain ⟨u, h1, h2⟩ := evLook_ok (P := P) hS h (opd_ok hE hp) (opd_ok hE hq)
    exact ⟨u, by simp [execOp, hop, h1], h2⟩
  · rename_i c
    split at h
    · rename_i x t hcal hargs htys
      obtain ⟨p, hp, h⟩ := Option.bind_eq_some_iff.1 h
      obtain ⟨u, h1, h2⟩ := evLen_ok (P := P) (ty := o.type) h (opd_ok hE hp)
      refine ⟨u, ?_, h2⟩
      have e1 : c.args = #[x] := by apply Array.ext'; simpa using hargs
      have e2 : c.argTypes = #[t] := by apply Array.ext'; simpa using htys
      simp [execOp, hop, resolve, hcal, e1, e2, invoke, builtin, h1]
    · rename_i x y hcal hargs
      split at h
      · rename_i k i k' j hx hy
        obtain rfl := Option.some.inj h
        have hxv := opd_ok hE hx
        have hyv := opd_ok hE hy
        generalize hv : a.eval x = vx at hxv
        generalize hw : a.eval y = vy at hyv
        cases hxv with
        | im _ _ hp =>
          cases hp
          cases hyv with
          | im _ _ hq =>
            cases hq
            refine ⟨_, ?_, .im _ _ (.sc _ rfl)⟩
            have e1 : c.args = #[x, y] := by apply Array.ext'; simpa using hargs
            simp [execOp, hop, resolve, hcal, e1, invoke, builtin, Builtin.max_, Builtin.max2, hv, hw]
      · cases h
    · rename_i x y hcal hargs
      split at h
      · rename_i k i k' j hx hy
        obtain rfl := Option.some.inj h
        have hxv := opd_ok hE hx
        have hyv := opd_ok hE hy
        generalize hv : a.eval x = vx at hxv
        generalize hw : a.eval y = vy at hyv
        cases hxv with
        | im _ _ hp =>
          cases hp
          cases hyv with
          | im _ _ hq =>
            cases hq
            refine ⟨_, ?_, .im _ _ (.sc _ rfl)⟩
            have e1 : c.args = #[x, y] := by apply Array.ext'; simpa using hargs
            simp [execOp, hop, resolve, hcal, e1, invoke, builtin, Builtin.min_, Builtin.min2, hv, hw]
      · cases h
    · cases h
  · cases h
end
end Go.VC
/- A frame's variables and objects are changed. -/
set_option linter.unusedSimpArgs false
set_option linter.unusedVariables false
namespace Go.VC
open Go Go.RowKit
section
variable {β : Base} {w w' : World} {ω ω' : Lab} {κ κ' : Nat → Value} {σ σ' : Sto} {E : Env} {a : Act} {s : St} {P : Program}

theorem put_tmps (a : Act) (d : Nat) (v : Value) : (a.put (some d) v).tmps = a.tmps.setIfInBounds d v := rfl
theorem EnvOk.put (h : EnvOk w ω κ σ E a.tmps) {d : Nat} (hd : d < a.tmps.size) {r : TV} {v : Value} (hr : RT w ω κ σ r v) : EnvOk w ω κ σ ((d, r) :: E) (a.put (some d) v).tmps := by
  intro t x hx
  rw [put_tmps]
  rw [get_cons] at hx
  by_cases ht : t = d
  · subst ht
    rw [if_pos rfl] at hx
    obtain rfl := Option.some.inj hx
    refine ⟨by simpa using hd, ?_⟩
    have : (a.tmps.setIfInBounds t v).getD t undef = v := by simp [Array.getD, hd]
    rw [this]; exact hr
  · rw [if_neg ht] at hx
    obtain ⟨h1, h2⟩ := h t x hx
    refine ⟨by simpa using h1, ?_⟩
    have : (a.tmps.setIfInBounds d v).getD t undef = a.tmps.getD t undef := by
      simp [Array.getD, h1, Array.getElem_setIfInBounds, Ne.symm ht]
    rw [this]; exact h2
theorem Rel.put {d : Nat} {r : TV} {v : Value} (h : Rel β ω κ s a w) (hd : d < s.N) (hr : RT w ω κ s.σ r v) : Rel β ω κ ⟨s.N, (d, r) :: s.E, s.σ⟩ (a.put (some d) v) w :=
  ⟨h.turn, h.keys, h.odd, h.defers, by rw [put_tmps]; simpa using h.size, h.env.put (by rw [h.size]; exact hd) hr, h.rs⟩

/-- Nothing names the key k. -/
def noE (k : Nat) : Env → Bool
  | [] => true
  | (_, x) :: r => !x.has k && noE k r
def noS (k : Nat) : Sto → Bool
  | [] => true
  | (_, .box _ cs) :: r => !hasL k cs && noS k r
  | _ :: r => noS k r
/-- Nothing tells what stands in row k. -/
def nnE (k : Nat) : Env → Bool
  | [] => true
  | (_, x) :: r => !x.hasN k && nnE k r
theorem noE_get {k : Nat} (h : noE k E = true) {t : Nat} {x : TV} (hx : get E t = some x) : x.has k = false := by
  induction E with
  | nil => cases hx
  | cons p r ih =>
    obtain ⟨u, y⟩ := p
    simp only [noE, Bool.and_eq_true, Bool.not_eq_true'] at h
    rw [get_cons] at hx
    split at hx
    · obtain rfl := Option.some.inj hx; exact h.1
    · exact ih h.2 hx
theorem nnE_get {k : Nat} (h : nnE k E = true) {t : Nat} {x : TV} (hx : get E t = some x) : x.hasN k = false := by
  induction E with
  | nil => cases hx
  | cons p r ih =>
    obtain ⟨u, y⟩ := p
    simp only [nnE, Bool.and_eq_true, Bool.not_eq_true'] at h
    rw [get_cons] at hx
    split at hx
    · obtain rfl := Option.some.inj hx; exact h.1
    · exact ih h.2 hx
theorem noS_get {k : Nat} (h : noS k σ = true) {j : Nat} {t : TypeId} {cs : List Cell} (hx : get σ j = some (.box t cs)) : hasL k cs = false := by
  induction σ with
  | nil => cases hx
  | cons p r ih =>
    obtain ⟨i, o⟩ := p
    rw [get_cons] at hx
    cases o with
    | box t' cs' =>
      simp only [noS, Bool.and_eq_true, Bool.not_eq_true'] at h
      split at hx
      · injection hx with hx; injection hx with q1 q2; subst q2; exact h.1
      · exact ih h.2 hx
    | vec => 
      simp only [noS] at h
      split at hx
      · injection hx with hx; cases hx
      · exact ih h hx
    | row =>
      simp only [noS] at h
      split at hx
      · injection hx with hx; cases hx
      · exact ih h hx
    | map =>
      simp only [noS] at h
      split at hx
      · injection hx with hx; cases hx
      · exact ih h hx
    | gl =>
      simp only [noS] at h
      split at hx
      · injection hx with hx; cases hx
      · exact ih h hx
mutual
theorem hasN_has (k : Nat) : ∀ (x : Cell), x.hasN k = true → x.has k = true
  | .ns j _, h => h
  | .fn _ caps, h => hasNL_has k caps h
  | .im _, h | .nl, h | .ik _ _ _, h | .rf _ _, h | .rv _ _ _, h | .os _ _, h | .ov _ _ _ _, h | .mp _, h | .bad, h => by cases h
theorem hasNL_has (k : Nat) : ∀ (l : List Cell), hasNL k l = true → hasL k l = true
  | [], h => by cases h
  | c :: r, h => by
    simp only [hasNL, Bool.or_eq_true] at h
    simp only [hasL, Bool.or_eq_true]
    rcases h with h | h
    · exact .inl (hasN_has k c h)
    · exact .inr (hasNL_has k r h)
end
theorem hasNT_has (k : Nat) (x : TV) (h : x.hasN k = true) : x.has k = true := by
  cases x with
  | c x => exact hasN_has k x h
  | ag cs => exact hasNL_has k cs h
  | tp ts =>
    simp only [TV.hasN, List.any_eq_true] at h
    simp only [TV.has, List.any_eq_true]
    obtain ⟨x, hx, h⟩ := h
    refine ⟨x, hx, ?_⟩
    cases x with
    | c x => exact hasN_has k x h
    | ag cs => exact hasNL_has k cs h
    | tp ts => cases h

/-- **The object k is changed**; others stay, or go. -/
theorem Rel.change (h : Rel β ω κ s a w) (k : Nat) (ht : Turn w ω w' ω') (hdom : ∀ b, ω' b ≠ .no → b < w'.heap.size) (hκ : ∀ j, j ≠ k → κ' j = κ j)
    (hσ : ∀ j, j ≠ k → get σ' j = none ∨ (get σ' j = get s.σ j ∧ ∀ b, ω b = .ob j → ω' b = .ob j ∧ w'.heap[b]? = w.heap[b]?))
    (hk : ∀ o, get σ' k = some o → ObOk w' ω' κ' σ' k o)
    (hkk : KeyOk κ s.σ κ' σ' k ∨ ((get β.σ k).isSome = false ∧ noE k s.E = true ∧ noS k s.σ = true)) (hn : nnE k s.E = true) : Rel β ω' κ' ⟨s.N, s.E, σ'⟩ a w' := by
  have hkey : ∀ j, j ≠ k → KeyOk κ s.σ κ' σ' j := fun j hj => by
    refine ⟨fun _ => hκ j hj, fun o' m' ho hm => ?_⟩
    rcases hσ j hj with h0 | ⟨h0, _⟩
    · rw [h0] at ho; cases ho
    · rw [h0] at ho; exact ⟨o', m', ho, hm, Nat.le_refl _, fun _ => hκ j hj⟩
  have him : ∀ b, ω b = .im → ω' b = .im ∧ w'.heap[b]? = w.heap[b]? := fun b hb => ⟨ht.im b hb, ht.block b (h.rs.dom b (by rw [hb]; simp)) fun k hk => by rw [hb] at hk; cases hk⟩
  have hnest : ∀ j, j ≠ k → NestOk w κ s.σ w' κ' σ' j := fun j hj o' m' ho hm => by
    rcases hσ j hj with h0 | ⟨h0, h1⟩
    · rw [h0] at ho; cases ho
    · rw [h0] at ho
      refine ⟨⟨o', m', ho, hm⟩, hκ j hj, fun b n c hv hc => (h1 b ?_).2⟩
      have hob := h.rs.ob j o' ho
      cases o' with
      | box => cases hm
      | map => cases hm
      | gl => cases hm
      | vec t e n' cs own =>
        obtain ⟨_, xs, _, h3, _⟩ := hob
        exact h3 b (by rw [hv, rowB_some hc])
      | row n' cs =>
        obtain ⟨S, h3, h4⟩ := hob
        rw [hv] at h3
        cases h3 with
        | z => omega
        | sl _ _ _ _ _ _ _ _ _ _ _ _ _ _ _ _ h5 => exact h4 b ((h5 b).2 (.inl rfl))
  have hkE : ∀ t x, get s.E t = some x → ∀ j, x.has j = true → KeyOk κ s.σ κ' σ' j := fun t x hx j hj => by
    by_cases e : j = k
    · subst e
      rcases hkk with h1 | ⟨_, h1, _⟩
      · exact h1
      · rw [noE_get h1 hx] at hj; cases hj
    · exact hkey j e
  refine ⟨h.turn.trans ht, fun j hj => (h.keys j hj).trans ?_, h.odd, h.defers, h.size, fun t x hx => ⟨(h.env t x hx).1, (h.env t x hx).2.step ⟨him, hkE t x hx, fun j hj => ?_⟩⟩, ⟨fun j o ho => ?_, hdom⟩⟩
  · by_cases e : j = k
    · subst e
      rcases hkk with h1 | ⟨h1, _⟩
      · exact h1
      · rw [h1] at hj; cases hj
    · exact hkey j e
  · by_cases e : j = k
    · subst e; rw [nnE_get hn hx] at hj; cases hj
    · exact hnest j e
  · by_cases e : j = k
    · subst e; exact hk o ho
    · rcases hσ j e with h0 | ⟨h0, h1⟩
      · rw [h0] at ho; cases ho
      · rw [h0] at ho
        refine (h.rs.ob j o ho).step (hκ j e) h1 him fun t cs hb i hi => ?_
        subst hb
        by_cases e' : i = k
        · subst e'
          rcases hkk with h1 | ⟨_, _, h1⟩
          · exact h1
          · rw [noS_get h1 ho] at hi; cases hi
        · exact hkey i e'

theorem Turn.grown {w w' : World} {ω ω' : Lab} {row : Option Nat} (hg : w.grownBy w' row) (hrow : ∀ b, row = some b → ∃ k, ω b = .ob k) (him : ∀ b, ω b = .im → ω' b = .im) (hno : ∀ b, b < w.heap.size → ω b = .no → ω' b = .no) : Turn w ω w' ω' :=
  ⟨hg.os, hg.tape, hg.output, hg.size, fun b hb hk => hg.block b hb fun e => by obtain ⟨k, h⟩ := hrow b e.symm; exact hk k h, him, hno⟩
/-- The blocks from 'lo' on go to 'l'. -/
def newL (ω : Lab) (lo hi : Nat) (l : Lb) : Lab := fun b => if lo ≤ b ∧ b < hi then l else ω b

/-- The world grows; what is new is nobody's. -/
theorem Rel.grown (h : Rel β ω κ s a w) (hg : w.grownBy w' none) : Rel β ω κ s a w' := by
  have hb : ∀ b, ω b ≠ .no → w'.heap[b]? = w.heap[b]? := fun b hb => hg.block b (h.rs.dom b hb) (by simp)
  have ho : ∀ b j, ω b = .ob j → ω b = .ob j ∧ w'.heap[b]? = w.heap[b]? := fun b j hj => ⟨hj, hb b (by rw [hj]; simp)⟩
  have him : ∀ b, ω b = .im → ω b = .im ∧ w'.heap[b]? = w.heap[b]? := fun b hj => ⟨hj, hb b (by rw [hj]; simp)⟩
  refine ⟨h.turn.trans (Turn.grown hg (by simp) (fun _ h => h) (fun _ _ h => h)), h.keys, h.odd, h.defers, h.size, fun t x hx => ⟨(h.env t x hx).1, (h.env t x hx).2.step ⟨him, fun j _ => KeyOk.refl _ _ _, fun j _ o' m' ho' hm => ⟨⟨o', m', ho', hm⟩, rfl, fun b n c hv hc => hb b ?_⟩⟩⟩, ⟨fun j o hj => (h.rs.ob j o hj).step rfl (ho · j) him fun _ _ _ i _ => KeyOk.refl _ _ _, fun b hb => Nat.lt_of_lt_of_le (h.rs.dom b hb) hg.size⟩⟩
  have hob := h.rs.ob j o' ho'
  cases o' with
  | box => cases hm
  | map => cases hm
  | gl => cases hm
  | vec t e n' cs own =>
    obtain ⟨_, xs, _, h3, _⟩ := hob
    rw [h3 b (by rw [hv, rowB_some hc])]; simp
  | row n' cs =>
    obtain ⟨S, h3, h4⟩ := hob
    rw [hv] at h3
    cases h3 with
    | z => omega
    | sl _ _ _ _ _ _ _ _ _ _ _ _ _ _ _ _ h5 => rw [h4 b ((h5 b).2 (.inl rfl))]; simp
/-- More is all's. -/
theorem Rel.more (h : Rel β ω κ s a w) {lo : Nat} (hlo : ∀ b, lo ≤ b → b < w.heap.size → ω b = .no) (hb : β.w.heap.size ≤ lo) : Rel β (newL ω lo w.heap.size .im) κ s a w := by
  have hn : ∀ b l, ω b = l → l ≠ .no → newL ω lo w.heap.size .im b = l := fun b l hl hne => by
    unfold newL
    split
    · rename_i hc; rw [hlo b hc.1 hc.2] at hl; exact absurd hl.symm hne
    · exact hl
  have him : ∀ b, ω b = .im → newL ω lo w.heap.size .im b = .im ∧ w.heap[b]? = w.heap[b]? := fun b hb => ⟨hn b _ hb (by simp), rfl⟩
  refine ⟨⟨h.turn.os, h.turn.tape, h.turn.output, h.turn.size, h.turn.block, fun b hb => hn b _ (h.turn.im b hb) (by simp), fun b hb1 hb2 => ?_⟩, h.keys, h.odd, h.defers, h.size, fun t x hx => ⟨(h.env t x hx).1, (h.env t x hx).2.step ⟨him, fun j _ => KeyOk.refl _ _ _, fun j _ o' m' ho' hm => ⟨⟨o', m', ho', hm⟩, rfl, fun _ _ _ _ _ => rfl⟩⟩⟩,
    ⟨fun j o hj => (h.rs.ob j o hj).step rfl (fun b hb => ⟨hn b _ hb (by simp), rfl⟩) him fun _ _ _ i _ => KeyOk.refl _ _ _, fun b hb => ?_⟩⟩
  · unfold newL
    rw [if_neg (by omega)]
    exact h.turn.no b hb1 hb2
  · unfold newL at hb
    split at hb
    · omega
    · exact h.rs.dom b hb

theorem setL_eq {α : Type} (news : List α) : ∀ (cs : List α) (off : Nat), off + news.length ≤ cs.length → setL cs off news = cs.take off ++ news ++ cs.drop (off + news.length) := by
  induction news with
  | nil => intro cs off _; simp [setL]
  | cons x r ih =>
    intro cs off h
    simp only [List.length_cons] at h
    rw [setL, ih _ _ (by simp; omega)]
    apply List.ext_getElem?
    intro j
    by_cases h1 : j < off
    · simp [List.getElem?_append, List.getElem?_take, h1, show j < off + 1 by omega, show j < cs.length by omega, List.getElem?_set, show off ≠ j by omega, show j < off + 1 + r.length by omega, Nat.min_eq_left (show off ≤ cs.length by omega), Nat.min_eq_left (show off + 1 ≤ cs.length by omega), show j < off + (r.length + 1) by omega]
    · by_cases h2 : j = off
      · subst h2
        simp [List.getElem?_append, List.getElem?_take, List.getElem?_set, show j < cs.length by omega, Nat.min_eq_left (show j ≤ cs.length by omega), Nat.min_eq_left (show j + 1 ≤ cs.length by omega), show j < j + 1 + r.length by omega]
      · by_cases h3 : j < off + 1 + r.length
        · obtain ⟨d, rfl⟩ : ∃ d, j = off + 1 + d := ⟨j - (off + 1), by omega⟩
          have e : off + 1 + d - off = d + 1 := by omega
          simp [List.getElem?_append, Nat.min_eq_left (show off ≤ cs.length by omega), Nat.min_eq_left (show off + 1 ≤ cs.length by omega), show ¬ off + 1 + d < off by omega, e, show d < r.length by omega]
        · obtain ⟨d, rfl⟩ : ∃ d, j = off + 1 + r.length + d := ⟨j - (off + 1 + r.length), by omega⟩
          have e1 : ¬ off + 1 + r.length + d < off := by omega
          have e2 : off + 1 + r.length + d - off = (r.length + 1) + d := by omega
          have e3 : off + 1 + r.length + d - (off + 1) = r.length + d := by omega
          simp [List.getElem?_append, Nat.min_eq_left (show off ≤ cs.length by omega), Nat.min_eq_left (show off + 1 ≤ cs.length by omega), e1, e2, e3, List.getElem?_drop, List.getElem?_set, show ¬ off = off + 1 + r.length + d by omega]
          rw [if_neg (by omega), if_neg (by omega), show r.length + 1 + d = (r.length + d) + 1 by omega, List.getElem?_cons_succ, List.getElem?_append_right (by omega), List.getElem?_drop]
          congr 1
          omega
/-- What stands where after cells have been set. -/
theorem setL_get {α : Type} {news cs : List α} {off : Nat} (h : off + news.length ≤ cs.length) (j : Nat) : (setL cs off news)[j]? = if off ≤ j ∧ j < off + news.length then news[j - off]? else cs[j]? := by
  rw [setL_eq _ _ _ h]
  by_cases h1 : j < off
  · rw [if_neg (by omega), List.append_assoc, List.getElem?_append_left (by simp; omega), List.getElem?_take_of_lt h1]
  · by_cases h2 : j < off + news.length
    · rw [if_pos ⟨by omega, h2⟩, List.append_assoc, List.getElem?_append_right (by simp; omega), List.getElem?_append_left (by simp; omega)]
      simp [Nat.min_eq_left (show off ≤ cs.length by omega)]
    · rw [if_neg (by omega), List.getElem?_append_right (by simp; omega), List.getElem?_drop]
      congr 1
      simp; omega

theorem setRow_grown (w : World) (g : Nat) (cs : Array Value) : w.grownBy (w.setRow g cs) (some g) :=
  ⟨rfl, rfl, rfl, by simp [World.setRow], fun k hk hne => by
    simp only [World.setRow, Array.getElem?_modify]
    rw [if_neg (fun e => hne (by rw [e]))]⟩
theorem setRow_other (w : World) (g b : Nat) (cs : Array Value) (h : b ≠ g) : (w.setRow g cs).heap[b]? = w.heap[b]? := by
  simp only [World.setRow, Array.getElem?_modify]
  rw [if_neg (fun e => h e.symm)]
theorem setRow_size (w : World) (g : Nat) (cs : Array Value) : (w.setRow g cs).heap.size = w.heap.size := by simp [World.setRow]

/-- A store into a box. -/
theorem Rel.stBox {k off : Nat} {t : TypeId} {cs news : List Cell} {vs : List Value} (h : Rel β ω κ s a w) (hk : get s.σ k = some (.box t cs)) (hn : All2 (RC w ω κ s.σ) news vs) (h1 : ∀ u ∈ vs, u.oneCell' = true) (hnn : anyNL news = false)
    (hl : off + news.length ≤ cs.length) (hnE : nnE k s.E = true) (P : Program) : ∃ b w', κ k = .pointer (some ⟨b, 0, none⟩) ∧ (storeCells ⟨b, off, none⟩ vs).run P w = .ok () w' ∧
      Rel β ω κ ⟨s.N, s.E, upd s.σ k (.box t (setL cs off news))⟩ a w' := by
  obtain ⟨b, us, e1, e2, e3, e4, e5, e6⟩ := h.rs.ob k _ hk
  have hlen : cs.length = us.size := by simpa using e4.1
  have hnl : news.length = vs.length := hn.1
  have hrun := run_storeCells_at P b off t vs 0 us w e3 (by omega) h1
  simp only [Nat.add_zero] at hrun
  have hlist : us.toList.take off ++ vs ++ us.toList.drop (off + vs.length) = setL us.toList off vs := (setL_eq vs us.toList off (by simp; omega)).symm
  rw [hlist] at hrun
  refine ⟨b, _, e1, hrun, ?_⟩
  have hsome : (get s.σ k).isSome = true := by rw [hk]; rfl
  have hkey : ∀ j, KeyOk κ s.σ κ (upd s.σ k (.box t (setL cs off news))) j := fun j => by
    refine ⟨fun _ => rfl, fun o' m' hg hm => ?_⟩
    rw [get_upd _ _ _ _ hsome] at hg
    split at hg
    · injection hg with hg; subst hg; cases hm
    · exact ⟨o', m', hg, hm, Nat.le_refl _, fun _ => rfl⟩
  have hb : ∀ c, ω c ≠ .ob k → (w.setRow b (setL us.toList off vs).toArray).heap[c]? = w.heap[c]? := fun c hc => setRow_other _ _ _ _ fun e => by subst e; exact hc e2
  refine h.change k (Turn.grown (setRow_grown w b _) (fun c hc => ⟨k, by obtain rfl := Option.some.inj hc; exact e2⟩) (fun _ h => h) fun _ _ h => h) (fun c hc => by rw [setRow_size]; exact h.rs.dom c hc) (fun _ _ => rfl)
    (fun j hj => .inr ⟨by rw [get_upd _ _ _ _ hsome, if_neg hj], fun c hc => ⟨hc, hb c (by rw [hc]; simp; exact hj)⟩⟩) (fun o ho => ?_) (.inl (hkey k)) hnE
  rw [get_upd _ _ _ _ hsome, if_pos rfl] at ho
  obtain rfl := Option.some.inj ho
  have hov : Over w ω κ s.σ (w.setRow b (setL us.toList off vs).toArray) ω κ (upd s.σ k (.box t (setL cs off news))) (fun _ => True) (fun _ => False) :=
    ⟨fun c hc => ⟨hc, hb c (by rw [hc]; simp)⟩, fun j _ => hkey j, fun _ h => h.elim⟩
  have hno : ∀ (l : List Cell), anyNL l = false → ∀ x ∈ l, ∀ j, x.hasN j = true → False := fun l hl x hx j hj => by rw [anyN_has j x (anyNL_mem hl x hx)] at hj; cases hj
  refine ⟨b, (setL us.toList off vs).toArray, e1, e2, setRow_heap w b us _ t (0, 0) e3, ?_, fun u hu => ?_, ?_⟩
  · exact All2.setL (hn.imp fun x y hx hxy => hxy.step (hov.sub (fun _ _ => trivial) (hno _ hnn x hx))) off (e4.imp fun x y hx hxy => hxy.step (hov.sub (fun _ _ => trivial) (hno _ e6 x hx)))
  · rcases setL_mem (by simpa using hu) with hu | hu
    · exact e5 u (by simpa using hu)
    · exact h1 u hu
  · have : ∀ (l : List Cell), (∀ x ∈ l, x.anyN = false) → anyNL l = false := fun l => by
      induction l with
      | nil => intro _; rfl
      | cons c r ih => intro h; simp [anyNL, h c (by simp), ih fun x hx => h x (by simp [hx])]
    refine this _ fun x hx => ?_
    rcases setL_mem hx with hx | hx
    · exact anyNL_mem e6 x hx
    · exact anyNL_mem hnn x hx
end
end Go.VC
/- Own rows as trees; what is never written again. -/
set_option linter.unusedSimpArgs false
set_option linter.unusedVariables false
namespace Go.VC
open Go Go.RowKit
section
variable {β : Base} {w w' : World} {ω ω' : Lab} {κ κ' : Nat → Value} {σ σ' : Sto} {E : Env} {a : Act} {s : St} {P : Program}

def Ob.cells : Ob → List IV
  | .box _ _ => []
  | .vec _ _ _ cs _ => cs
  | .row _ cs => cs
  | .map _ _ => []
  | .gl _ _ => []
/-- An own row, all of it its own, as a tree. -/
theorem vec_RO {k n e : Nat} {t : TypeId} {cs : List IV} (h : ObOk w ω κ σ k (.vec t e n cs true)) : ∃ S, RO w (.sl n cs) (κ k) S ∧ ∀ b, S b → ω b = .ob k := by
  obtain ⟨h0, xs, h1, h2, h3⟩ := h
  have h3 : OwnC w ω k (rowB (κ k)) cs xs := h3
  obtain ⟨h4, Ss, h5, h6, h7⟩ := h3
  rcases h1.2 with ⟨rfl, a, hv⟩ | ⟨g, cap, cur, hv, hc, hg, hn, hm, hs, ht⟩
  · have : cs = [] := List.eq_nil_of_length_eq_zero (by rw [h4, h1.1]; simp)
    subst this
    exact ⟨fun _ => False, by rw [hv]; exact .z a _ fun _ h => h, fun _ h => h.elim⟩
  · rw [hv] at h2 h7 ⊢
    rw [rowB_some hc] at h2 h7
    have hl : cs.length ≤ cur.size := by rw [h4, h1.1, hs]; exact Nat.mul_le_mul_right _ hn
    refine ⟨fun b => b = g ∨ ∃ j, j < cs.length ∧ Ss j b, .sl n cap g t cur cs Ss _ hg hc hn hm hl (fun j x hx => ?_) (fun j hj hb => (h7 j g hj hb).2 rfl) h6 (fun _ => Iff.rfl), fun b hb => ?_⟩
    · have hj := (List.getElem?_eq_some_iff.1 hx).1
      refine h5 j x _ hx ?_
      rw [← ht, List.getElem?_take_of_lt (by rw [← h1.1, ← h4]; exact hj)]
      simp [Array.getD, show j < cur.size by omega]
    · rcases hb with rfl | ⟨j, hj, hb⟩
      · exact h2 _ rfl
      · exact (h7 j b hj hb).1
/-- An own row reads as a tree where its blocks are all's. -/
theorem ob_RI {k n : Nat} {o : Ob} (h : ObOk w ω κ σ k o) (hm : o.len? = some n) (hi : ∀ b, ω b = .im → ω' b = .im) (hk : ∀ b, ω b = .ob k → ω' b = .im) : RI w ω' (.sl n o.cells) (κ k) := by
  cases o with
  | box => cases hm
  | map => cases hm
  | gl => cases hm
  | row m cs =>
    obtain rfl := Option.some.inj hm
    obtain ⟨S, h1, h2⟩ := h
    exact h1.im fun b hb => hk b (h2 b hb)
  | vec t e m cs own =>
    obtain rfl := Option.some.inj hm
    cases own with
    | true =>
      obtain ⟨S, h1, h2⟩ := vec_RO h
      exact h1.im fun b hb => hk b (h2 b hb)
    | false =>
      obtain ⟨h0, xs, h1, h2, h3⟩ := h
      have h3 : All2 (RI w ω) cs xs := h3
      obtain ⟨ad, c, hv, hn, hc, _⟩ := h1.slice
      have hcell := h1.cells
      rw [hv]
      cases ad with
      | none =>
        rcases h1.2 with ⟨rfl, a, hv'⟩ | ⟨g, cap, cur, hv', _⟩
        · rw [hv] at hv'
          injection hv' with _ _ q
          subst q
          have : cs = [] := List.eq_nil_of_length_eq_zero (by rw [h3.1, h1.1]; simp)
          rw [show (Ob.vec t e 0 cs false).cells = [] from this]
          exact .slnil
        · rw [hv] at hv'; cases hv'
      | some ad =>
        refine .sl _ _ _ ad (fun i => xs.getD i undef) (fun hne => ?_) hn hc (fun i hi => ?_) fun i x hx => ?_
        · rcases h1.2 with ⟨hn0, a, hv'⟩ | ⟨g, cap, cur, hv', hc', _⟩
          · exact absurd (List.eq_nil_of_length_eq_zero (by show cs.length = 0; rw [h3.1, h1.1, hn0]; simp)) hne
          · refine hk _ (h2 _ ?_)
            rw [hv] at hv' ⊢
            injection hv' with q1 q2 q3
            rw [q3, rowB_some hc']
        · have hl : i < xs.length := by have := h3.1; simp [Ob.cells] at hi; omega
          have := hcell ad _ c hv i xs[i] (by simp [hl])
          simpa [List.getD, hl] using this
        · obtain ⟨u, hu, hr⟩ := h3.get hx
          have : xs.getD i undef = u := by rw [List.getD, hu]; rfl
          rw [this]
          exact hr.kept fun b hb => ⟨hi b hb, rfl⟩

/-- Cells that are trees. -/
def toIVs : List Cell → Option (List IV)
  | [] => some []
  | .im x :: r => (toIVs r).map (x :: ·)
  | .nl :: r => (toIVs r).map (.sl 0 [] :: ·)
  | .ik _ n cs :: r => (toIVs r).map (.sl n cs :: ·)
  | .fn f [] :: r => (toIVs r).map (.fn f [] :: ·)
  | _ => none
theorem All2.cons {α δ : Type} {R : α → δ → Prop} {x : α} {y : δ} {xs : List α} {ys : List δ} (h : R x y) (h' : All2 R xs ys) : All2 R (x :: xs) (y :: ys) :=
  ⟨by simp [h'.1], fun j u v hu hv => by
    cases j with
    | zero => simp at hu hv; subst hu; subst hv; exact h
    | succ j => exact h'.2 j u v (by simpa using hu) (by simpa using hv)⟩
theorem All2.tail {α δ : Type} {R : α → δ → Prop} {x : α} {y : δ} {xs : List α} {ys : List δ} (h : All2 R (x :: xs) (y :: ys)) : All2 R xs ys := ⟨by simpa using h.1, fun j u v hu hv => h.2 (j + 1) u v hu hv⟩
theorem All2.head {α δ : Type} {R : α → δ → Prop} {x : α} {y : δ} {xs : List α} {ys : List δ} (h : All2 R (x :: xs) (y :: ys)) : R x y := h.2 0 x y rfl rfl
theorem toIVs_ok {cs : List Cell} {xs : List IV} (h : toIVs cs = some xs) {vs : List Value} (hv : All2 (RC w ω κ σ) cs vs) : All2 (RI w ω) xs vs := by
  induction cs generalizing xs vs with
  | nil => obtain rfl := Option.some.inj h; exact ⟨hv.1, by simp⟩
  | cons c r ih =>
    cases vs with
    | nil => simp [All2] at hv
    | cons v vs =>
      have h0 : RC w ω κ σ c v := hv.head
      have ht : All2 (RC w ω κ σ) r vs := hv.tail
      have fin : ∀ {x : IV} {ys : List IV}, RI w ω x v → toIVs r = some ys → All2 (RI w ω) (x :: ys) (v :: vs) := fun hx hys => .cons hx (ih hys ht)
      unfold toIVs at h
      split at h
      · rename_i heq; cases heq
      · rename_i x r' heq
        obtain ⟨rfl, rfl⟩ := List.cons.inj heq
        obtain ⟨ys, hys, rfl⟩ := Option.map_eq_some_iff.1 h
        cases h0 with | im _ _ h0 => exact fin h0 hys
      · rename_i r' heq
        obtain ⟨rfl, rfl⟩ := List.cons.inj heq
        obtain ⟨ys, hys, rfl⟩ := Option.map_eq_some_iff.1 h
        cases h0; exact fin .slnil hys
      · rename_i c' n' cs' r' heq
        obtain ⟨rfl, rfl⟩ := List.cons.inj heq
        obtain ⟨ys, hys, rfl⟩ := Option.map_eq_some_iff.1 h
        cases h0 with | ik _ _ _ _ h0 => exact fin h0 hys
      · rename_i f r' heq
        obtain ⟨rfl, rfl⟩ := List.cons.inj heq
        obtain ⟨ys, hys, rfl⟩ := Option.map_eq_some_iff.1 h
        cases h0 with
        | fn _ _ vs' hl hc => exact fin (.fn f [] vs' hl (by simp)) hys
      · cases h

theorem RI_len {n m c : Nat} {cs : List IV} {a : Option Addr} (h : RI w ω (.sl m cs) (.slice a n c)) : n = m := by cases h <;> rfl
/-- A part of a tree that is a slice. -/
theorem RI_pt {n off b c : Nat} {cs : List IV} (h : RI w ω (.sl n cs) (.slice (some ⟨b, 0, none⟩) n c)) : RI w ω (.pt (cs.drop off)) (.pointer (some ⟨b, off, none⟩)) := by
  cases h with
  | sl _ _ _ a vs hd hn hm hcell hr =>
    refine .pt _ _ (fun i => vs (off + i)) (fun hne => hd (by rintro rfl; simp at hne)) (fun i hi => ?_) fun i x hx => ?_
    · rw [Addr.add_lit]
      have := hcell (off + i) (by simp at hi; omega)
      rw [addr_add_lit] at this; exact this
    · rw [List.getElem?_drop] at hx; exact hr _ _ hx
theorem RI_ov {n off m z c : Nat} {cs : List IV} {kv : Value} {a' : Option Addr} (h : RI w ω (.sl n cs) kv) (hmc : m ≤ c) (ho : OvOk kv off a' m c) : RI w ω (.sl m ((cs.drop off).take (m * z))) (.slice a' m c) := by
  obtain ⟨h1, h2, h3, h4⟩ := ho
  rcases Nat.eq_zero_or_pos c with rfl | hc
  · obtain rfl : m = 0 := by omega
    simp only [Nat.zero_mul, List.take_zero]
    cases a' with
    | none => exact .slnil
    | some a => exact .sl 0 0 [] a (fun _ => undef) (fun h => absurd rfl h) (Nat.le_refl _) (by simp [maxLen]) (fun j hj => by simp at hj) (fun j x hx => by simp at hx)
  · obtain ⟨b, l, c', rfl, rfl⟩ := h3 hc
    have h5 : RI w ω (.pt (cs.drop off)) (.pointer (some ⟨b, off, none⟩)) := by
      have : l = n := by cases h; rfl
      subst this
      exact RI_pt h
    cases h5 with
    | pt _ _ vs hd hcell hr =>
      refine .sl _ _ _ _ vs (fun hne => hd (by intro he; rw [he] at hne; simp at hne)) h1 h2 (fun i hi => hcell i (by simp at hi ⊢; omega)) fun i x hx => hr i x ?_
      have hi : i < m * z := by have := (List.getElem?_eq_some_iff.1 hx).1; simp at this; omega
      rw [List.getElem?_take_of_lt hi] at hx; exact hx
def Ob.esz : Ob → Nat
  | .vec _ e _ _ _ => e
  | _ => 0

/-- The object k is never written again: what is known of it becomes a tree. -/
def Cell.frz (k : Nat) (o : Ob) : Cell → Cell
  | .rf j off => if j = k then (match o with | .box _ cs => (match toIVs cs with | some xs => .im (.pt (xs.drop off)) | none => .bad) | _ => .bad) else .rf j off
  | .rv j len off => if j = k then (if o.len? = some len then .im (.pt (o.cells.drop off)) else .bad) else .rv j len off
  | .os j n => if j = k then (if o.len? = some n then .im (.sl n o.cells) else .bad) else .os j n
  | .ov j n off m => if j = k then (if o.len? = some n then .im (.sl m ((o.cells.drop off).take (m * o.esz))) else .bad) else .ov j n off m
  | .ns j i => if j = k then (match o.cells[i]? with | some x => .im x | none => .bad) else .ns j i
  | .mp j => if j = k then .bad else .mp j
  | .fn f caps => if hasL k caps then .bad else .fn f caps
  | c => c
def TV.frz (k : Nat) (o : Ob) : TV → TV
  | .c x => .c (x.frz k o)
  | .ag cs => .ag (cs.map (·.frz k o))
  | .tp ts => .tp (ts.map fun
    | .c x => .c (x.frz k o)
    | .ag cs => .ag (cs.map (·.frz k o))
    | .tp ts => .tp ts)
def frzE (k : Nat) (o : Ob) : Env → Env
  | [] => []
  | (t, x) :: r => (t, x.frz k o) :: frzE k o r
def frzO (k : Nat) (o : Ob) : Ob → Ob
  | .box t cs => .box t (cs.map (·.frz k o))
  | p => p
def frzS (k : Nat) (o : Ob) : Sto → Sto
  | [] => []
  | (j, p) :: r => if j = k then frzS k o r else (j, frzO k o p) :: frzS k o r
def St.frz (s : St) (k : Nat) : St := match get s.σ k with
  | some o => ⟨s.N, frzE k o s.E, frzS k o s.σ⟩
  | none => s
theorem get_frzE (k : Nat) (o : Ob) (t : Nat) : get (frzE k o E) t = (get E t).map (·.frz k o) := by
  induction E with
  | nil => rfl
  | cons p r ih =>
    obtain ⟨u, x⟩ := p
    simp only [frzE, get_cons, ih]
    split <;> rfl
theorem get_frzS (k : Nat) (o : Ob) (j : Nat) : get (frzS k o σ) j = if j = k then none else (get σ j).map (frzO k o) := by
  induction σ with
  | nil => simp [frzS, get]
  | cons p r ih =>
    obtain ⟨u, x⟩ := p
    simp only [frzS]
    by_cases hu : u = k
    · subst hu
      rw [if_pos rfl, ih, get_cons]
      by_cases hj : j = u
      · simp [hj]
      · simp [hj]
    · rw [if_neg hu, get_cons, get_cons, ih]
      by_cases hj : j = u
      · subst hj; simp [hu]
      · simp [hj]
theorem frzO_len (k : Nat) (o p : Ob) : (frzO k o p).len? = p.len? := by cases p <;> rfl
theorem has_ne {k i : Nat} {c : Cell} (h : c.has k = false) (hi : c.has i = true) : i ≠ k := fun e => by subst e; rw [h] at hi; cases hi

/-- The blocks of k are all's now. -/
def imL (ω : Lab) (k : Nat) : Lab := fun b => if ω b = .ob k then .im else ω b
theorem imL_im (ω : Lab) (k b : Nat) (h : ω b = .im) : imL ω k b = .im := by unfold imL; rw [h]; simp
theorem imL_k (ω : Lab) (k b : Nat) (h : ω b = .ob k) : imL ω k b = .im := by unfold imL; rw [if_pos h]
theorem imL_j (ω : Lab) {k j b : Nat} (hj : j ≠ k) (h : ω b = .ob j) : imL ω k b = .ob j := by unfold imL; rw [if_neg (by rw [h]; simp; exact hj), h]

theorem RC.frz {k : Nat} {o : Ob} (hS : RS w ω κ σ) (hk : get σ k = some o) {x : Cell} {v : Value} (h : RC w ω κ σ x v) : RC w (imL ω k) κ (frzS k o σ) (x.frz k o) v := by
  have hover : ∀ {y : Cell}, y.has k = false → Over w ω κ σ w (imL ω k) κ (frzS k o σ) (fun k => y.has k = true) (fun k => y.hasN k = true) := fun {y} hy => by
    have hg : ∀ j, j ≠ k → ∀ o' m', get (frzS k o σ) j = some o' → o'.len? = some m' → ∃ p, get σ j = some p ∧ p.len? = some m' := fun j hj o' m' ho hm => by
      rw [get_frzS, if_neg hj] at ho
      obtain ⟨p, hp, rfl⟩ := Option.map_eq_some_iff.1 ho
      exact ⟨p, hp, by rw [← hm, frzO_len]⟩
    refine ⟨fun b hb => ⟨imL_im ω k b hb, rfl⟩, fun j hj => ⟨fun _ => rfl, fun o' m' ho hm => ?_⟩, fun j hj o' m' ho hm => ?_⟩
    · obtain ⟨p, h1, h2⟩ := hg j (has_ne hy hj) o' m' ho hm
      exact ⟨p, m', h1, h2, Nat.le_refl _, fun _ => rfl⟩
    · obtain ⟨p, h1, h2⟩ := hg j (has_ne hy (hasN_has j y hj)) o' m' ho hm
      exact ⟨⟨p, m', h1, h2⟩, rfl, fun _ _ _ _ _ => rfl⟩
  have hstep : ∀ {y : Cell}, y.has k = false → RC w ω κ σ y v → RC w (imL ω k) κ (frzS k o σ) y v := fun hy hr => hr.step (hover hy)
  have hob := hS.ob k o hk
  have hRI : ∀ n, o.len? = some n → RI w (imL ω k) (.sl n o.cells) (κ k) := fun n hm => ob_RI hob hm (fun b hb => imL_im ω k b hb) fun b hb => imL_k ω k b hb
  cases x with
  | im x => exact hstep rfl h
  | nl => exact hstep rfl h
  | ik => exact hstep rfl h
  | bad => exact .bad v
  | mp j =>
    simp only [Cell.frz]
    split
    · exact .bad v
    · rename_i hj; exact hstep (by simpa [Cell.has] using hj) h
  | fn f caps =>
    simp only [Cell.frz]
    split
    · exact .bad v
    · rename_i hc
      exact hstep (by simpa [Cell.has] using hc) h
  | rf j off =>
    simp only [Cell.frz]
    split
    · rename_i hj
      subst hj
      cases o with
      | vec => exact .bad v
      | row => exact .bad v
      | map => exact .bad v
      | gl => exact .bad v
      | box t cs =>
        simp only
        split
        · rename_i xs hxs
          obtain ⟨b, vs, h1, h2, h3, h4, h5, _⟩ := hob
          have h6 := toIVs_ok hxs h4
          cases h with
          | rf _ _ b' hb' =>
            have : b = b' := by rw [h1] at hb'; simpa using hb'
            subst this
            refine .im _ _ (.pt _ _ (fun i => vs.toList.getD (off + i) undef) (fun _ => imL_k ω j b h2) (fun i hi => ?_) fun i x hx => ?_)
            · rw [Addr.add_lit, cell_row h3]
              have : off + i < vs.size := by have := h6.1; simp at hi this; omega
              simp [List.getD, this]
            · rw [List.getElem?_drop] at hx
              obtain ⟨u, hu, hr⟩ := h6.get hx
              have : vs.toList.getD (off + i) undef = u := by rw [List.getD, hu]; rfl
              rw [this]
              exact hr.kept fun b hb => ⟨imL_im ω j b hb, rfl⟩
        · exact .bad v
    · rename_i hj; exact hstep (by simpa [Cell.has] using hj) h
  | rv j len off =>
    simp only [Cell.frz]
    split
    · rename_i hj
      subst hj
      split
      · rename_i hm
        cases h with
        | rv _ _ _ ad hh =>
          obtain ⟨b, n, c, hkk, rfl⟩ := (hh o len hk hm).2 rfl
          have := hRI len hm
          rw [hkk] at this
          have hn : n = len := RI_len this
          subst hn
          exact .im _ _ (RI_pt this)
      · exact .bad v
    · rename_i hj; exact hstep (by simpa [Cell.has] using hj) h
  | os j n =>
    simp only [Cell.frz]
    split
    · rename_i hj
      subst hj
      split
      · rename_i hm
        cases h with
        | os _ _ ad c hnc _ hh =>
          have := hRI n hm
          rw [(hh o n hk hm).2 rfl] at this
          exact .im _ _ this
      · exact .bad v
    · rename_i hj; exact hstep (by simpa [Cell.has] using hj) h
  | ov j n off m =>
    simp only [Cell.frz]
    split
    · rename_i hj
      subst hj
      split
      · rename_i hm
        cases h with
        | ov _ _ _ _ ad c hmc _ hh => exact .im _ _ (RI_ov (hRI n hm) hmc ((hh o n hk hm).2 rfl))
      · exact .bad v
    · rename_i hj; exact hstep (by simpa [Cell.has] using hj) h
  | ns j i =>
    simp only [Cell.frz]
    split
    · rename_i hj
      subst hj
      split
      · rename_i x hx
        cases h with
        | ns _ _ _ hh =>
          have hl : ∃ m, o.len? = some m := by cases o <;> first | (simp [Ob.cells] at hx; done) | exact ⟨_, rfl⟩
          obtain ⟨m, hm⟩ := hl
          obtain ⟨b, n, c, hkk, hc, hcell⟩ := hh o m hk hm
          have := hRI m hm
          rw [hkk] at this
          have hnm : n = m := RI_len this
          subst hnm
          generalize o.cells = cs at hx this
          cases this with
          | sl _ _ _ a vs hd hn hm' hce hr =>
            have h1 := hce i (List.getElem?_eq_some_iff.1 hx).1
            rw [addr_add_lit, hcell] at h1
            have h2 := hr i x hx
            rw [← Option.some.inj h1] at h2
            exact .im _ _ h2
      · exact .bad v
    · rename_i hj; exact hstep (by simpa [Cell.has] using hj) h

theorem RT1.frz {k : Nat} {o : Ob} (hS : RS w ω κ σ) (hk : get σ k = some o) {x : TV} {v : Value} (h : RT1 w ω κ σ x v) : RT1 w (imL ω k) κ (frzS k o σ) (x.frz k o) v := by
  cases x with
  | c x => exact RC.frz hS hk h
  | ag cs =>
    obtain ⟨vs, rfl, h1, h2⟩ := h
    refine ⟨vs, rfl, ⟨by simp [h1.1], fun j y z hy hz => ?_⟩, h2⟩
    rw [List.getElem?_map] at hy
    obtain ⟨y', hy', rfl⟩ := Option.map_eq_some_iff.1 hy
    exact RC.frz hS hk (h1.2 j y' z hy' hz)
  | tp ts => exact h.elim
theorem RT.frz {k : Nat} {o : Ob} (hS : RS w ω κ σ) (hk : get σ k = some o) {x : TV} {v : Value} (h : RT w ω κ σ x v) : RT w (imL ω k) κ (frzS k o σ) (x.frz k o) v := by
  cases x with
  | c x => exact RC.frz hS hk h
  | ag cs => exact RT1.frz (x := .ag cs) hS hk h
  | tp ts =>
    obtain ⟨vs, rfl, h1⟩ := h
    refine ⟨vs, rfl, by simp [h1.1], fun j y z hy hz => ?_⟩
    rw [List.getElem?_map] at hy
    obtain ⟨y', hy', rfl⟩ := Option.map_eq_some_iff.1 hy
    have := h1.2 j y' z hy' hz
    cases y' with
    | c x => exact RC.frz hS hk this
    | ag cs => exact RT1.frz (x := .ag cs) hS hk this
    | tp ts => exact this.elim
theorem frz_anyN (k : Nat) (o : Ob) : ∀ (c : Cell), c.anyN = false → (c.frz k o).anyN = false := by
  intro c h
  cases c with
  | ns => cases h
  | fn f caps =>
    simp only [Cell.frz]
    split
    · rfl
    · exact h
  | rf => 
    simp only [Cell.frz]
    split
    · cases o with
      | box t cs => simp only; split <;> rfl
      | _ => rfl
    · rfl
  | _ =>
    simp only [Cell.frz]
    try split
    all_goals first | rfl | (split <;> rfl)
theorem anyNL_of : ∀ {l : List Cell}, (∀ x ∈ l, x.anyN = false) → anyNL l = false
  | [], _ => rfl
  | c :: r, h => by
    have h1 := h c List.mem_cons_self
    have h2 : anyNL r = false := anyNL_of fun x hx => h x (List.mem_cons_of_mem _ hx)
    simp [anyNL, h1, h2]

theorem Rel.frz (h : Rel β ω κ s a w) (k : Nat) : ∃ ω', Rel β ω' κ (s.frz k) a w := by
  unfold St.frz
  cases hk : get s.σ k with
  | none => exact ⟨ω, h⟩
  | some o =>
    refine ⟨imL ω k, h.turn.trans ⟨rfl, rfl, rfl, Nat.le_refl _, fun _ _ _ => rfl, fun b hb => imL_im ω k b hb, fun b _ hb => by unfold imL; rw [if_neg (by rw [hb]; simp)]; exact hb⟩, fun j hj => (h.keys j hj).trans ⟨fun _ => rfl, fun o' m' ho hm => ?_⟩, h.odd, h.defers, h.size, fun t x hx => ?_, ⟨fun j o' ho => ?_, fun b hb => h.rs.dom b fun hb' => hb (by unfold imL; rw [if_neg (by rw [hb']; simp)]; exact hb')⟩⟩
    · rw [get_frzS] at ho
      split at ho
      · cases ho
      · obtain ⟨p, hp, rfl⟩ := Option.map_eq_some_iff.1 ho
        rw [frzO_len] at hm
        exact ⟨p, m', hp, hm, Nat.le_refl _, fun _ => rfl⟩
    · simp only at hx
      rw [get_frzE] at hx
      obtain ⟨y, hy, rfl⟩ := Option.map_eq_some_iff.1 hx
      exact ⟨(h.env t y hy).1, (h.env t y hy).2.frz h.rs hk⟩
    · simp only at ho
      rw [get_frzS] at ho
      split at ho
      · cases ho
      · rename_i hjk
        obtain ⟨p, hp, rfl⟩ := Option.map_eq_some_iff.1 ho
        have hob := h.rs.ob j p hp
        cases p with
        | box t cs =>
          obtain ⟨b, vs, h1, h2, h3, h4, h5, h6⟩ := hob
          refine ⟨b, vs, h1, imL_j ω hjk h2, h3, ⟨by simp [h4.1], fun i y z hy hz => ?_⟩, h5, anyNL_of fun x hx => ?_⟩
          · rw [List.getElem?_map] at hy
            obtain ⟨y', hy', rfl⟩ := Option.map_eq_some_iff.1 hy
            exact RC.frz h.rs hk (h4.2 i y' z hy' hz)
          · obtain ⟨y, hy, rfl⟩ := List.mem_map.1 hx
            exact frz_anyN k o y (anyNL_mem h6 y hy)
        | vec t e n cs own => exact ObOk.step (o := .vec t e n cs own) hob rfl (fun b hb => ⟨imL_j ω hjk hb, rfl⟩) (fun b hb => ⟨imL_im ω k b hb, rfl⟩) fun _ _ h => by cases h
        | row n cs => exact ObOk.step (o := .row n cs) hob rfl (fun b hb => ⟨imL_j ω hjk hb, rfl⟩) (fun b hb => ⟨imL_im ω k b hb, rfl⟩) fun _ _ h => by cases h
        | map dd ff => exact ObOk.step (o := .map dd ff) hob rfl (fun b hb => ⟨imL_j ω hjk hb, rfl⟩) (fun b hb => ⟨imL_im ω k b hb, rfl⟩) fun _ _ h => by cases h
        | gl dd ff => exact ObOk.step (o := .gl dd ff) hob rfl (fun b hb => ⟨imL_j ω hjk hb, rfl⟩) (fun b hb => ⟨imL_im ω k b hb, rfl⟩) fun _ _ h => by cases h
end
end Go.VC
/- Rows: appends, stores, new ones; what moves into them. -/
set_option linter.unusedSimpArgs false
set_option linter.unusedVariables false
namespace Go.VC
open Go Go.RowKit
section
variable {β : Base} {w w' : World} {ω ω' : Lab} {κ κ' : Nat → Value} {σ σ' : Sto} {E : Env} {a : Act} {s : St} {P : Program}

/-- A slice type's element type, its cells, its bytes, its zero value. -/
def apOf (P : Program) (t : TypeId) : Option (TypeId × Nat × Nat × List Value) :=
  match P.underlying t with
  | some (.slice e) => match P.info? e with
    | some i => match i.zero with
      | some z => if z.cells.size = i.size ∧ 0 < i.size ∧ z.cells.all (·.oneCell') then some (e, i.size, i.bytes, z.cells.toList) else none
      | none => none
    | none => none
  | _ => none
theorem apOf_some {t e : TypeId} {sz by_ : Nat} {zs : List Value} (h : apOf P t = some (e, sz, by_, zs)) :
    ∃ i z, P.underlying t = some (.slice e) ∧ P.info? e = some i ∧ i.zero = some z ∧ z.cells.size = i.size ∧ 0 < i.size ∧ i.size = sz ∧ i.bytes = by_ ∧ z.cells.toList = zs ∧ ∀ u ∈ zs, u.oneCell' = true := by
  unfold apOf at h
  split at h
  · rename_i e' hu
    split at h
    · rename_i i hi
      split at h
      · rename_i z hz
        split at h
        · rename_i hc
          obtain ⟨h1, h2, h3⟩ := hc
          injection h with h
          injection h with q1 h
          injection h with q2 h
          injection h with q3 q4
          subst q1; subst q2; subst q3; subst q4
          exact ⟨i, z, hu, hi, hz, h1, h2, rfl, rfl, rfl, fun u hu => Array.all_eq_true_iff_forall_mem.1 h3 u (by simpa using hu)⟩
        · cases h
      · cases h
    · cases h
  · cases h

theorem append_blk {P : Program} {t ty e : TypeId} {i : TypeInfo} {z : Value} (ht : P.underlying t = some (.slice e)) (hi : P.info? e = some i) (hz : i.zero = some z) (hzs : z.cells.size = i.size) (hsz : 0 < i.size)
    {v : Value} {n : Nat} {xs : List Value} (hown : w.ownsRow 0 e i.size v n xs) (ad : Option Addr) (m c : Nat) (news : List Value) (hnil : ad = none → m = 0 ∧ c = 0) (hl : news.length = m * i.size)
    (hnews : ∀ b, ad = some b → ∀ j u, news[j]? = some u → w.cell? (b.add j) = some u) (h1 : ∀ u ∈ news, u.oneCell' = true)
    (h63 : n + m ≤ maxLen) (hbytes : (n + m) * i.bytes ≤ 140737488355328) :
    ∃ v' w', (Builtin.append_ #[t, t] ty #[v, .slice ad m c]).run P w = .ok v' w' ∧ w'.ownsRow 0 e i.size v' (n + m) (xs ++ news) ∧ w.grownBy w' v.ownBlock ∧
      (v' = v ∧ m = 0 ∨ 0 < m) ∧ (∀ b, v'.ownBlock = some b → v.ownBlock = some b ∨ w.heap.size ≤ b) := by
  have key : ∀ v' w', (Builtin.append_ #[t, t] ty #[v, .slice ad m c]).run P w = .ok v' w' → (m = 0 → v' = v) → (∀ b, v'.ownBlock = some b → v.ownBlock = some b ∨ w.heap.size ≤ b) → ∀ v'' w'', (Builtin.append_ #[t, t] ty #[v, .slice ad m c]).run P w = .ok v'' w'' →
      w''.ownsRow 0 e i.size v'' (n + m) (xs ++ news) → w.grownBy w'' v.ownBlock → ∃ v' w', (Builtin.append_ #[t, t] ty #[v, .slice ad m c]).run P w = .ok v' w' ∧ w'.ownsRow 0 e i.size v' (n + m) (xs ++ news) ∧ w.grownBy w' v.ownBlock ∧
      (v' = v ∧ m = 0 ∨ 0 < m) ∧ (∀ b, v'.ownBlock = some b → v.ownBlock = some b ∨ w.heap.size ≤ b) := by
    intro v' w' hr hm hb v'' w'' hr' ho hg
    rw [hr] at hr'
    injection hr' with q1 q2
    subst q1; subst q2
    refine ⟨v', w', hr, ho, hg, ?_, hb⟩
    by_cases h0 : m = 0
    · exact .inl ⟨hm h0, h0⟩
    · exact .inr (by omega)
  have hsmall : n + m ≤ 9223372036854775807 := by simp only [maxLen] at h63; omega
  cases ad with
  | none =>
    obtain ⟨rfl, rfl⟩ := hnil rfl
    have hn0 : news = [] := List.eq_nil_of_length_eq_zero (by simpa using hl)
    subst hn0
    refine ⟨v, w, ?_, by simpa using hown, World.grownBy.refl w _, .inl ⟨rfl, rfl⟩, fun b hb => .inl hb⟩
    rcases hown.2 with ⟨rfl, hn⟩ | ⟨g, cap, cur, rfl, hbg, hg, hnc, hcm, hcs, htake⟩
    · simp [Builtin.append_, run_underlying ht, sizeOf, typeInfo, hi, Builtin.lenOf, Builtin.firstCells]
    · simp [Builtin.append_, run_underlying ht, sizeOf, typeInfo, hi, Builtin.lenOf, Builtin.firstCells, hnc, storeCells]
  | some ad =>
    have hnw := hnews ad rfl
    obtain ⟨v'', w'', hr'', ho, hg, _⟩ := run_append_own (P := P) (w := w) 0 t ty e i z i.size i.bytes ht hi hz rfl rfl hzs hsz v n xs hown ad m c news hl hnw h1 h63 hbytes (Nat.zero_le _)
    rcases hown.2 with ⟨rfl, hn⟩ | ⟨g, cap, cur, rfl, hbg, hgc, hnc, hcm, hcs, htake⟩
    · by_cases hm : m = 0
      · subst hm
        have hn0 : news = [] := List.eq_nil_of_length_eq_zero (by simpa using hl)
        subst hn0
        refine key (.slice none 0 0) w ?_ (fun _ => rfl) (fun b hb => .inl hb) v'' w'' hr'' ho hg
        simp [Builtin.append_, run_underlying ht, sizeOf, typeInfo, hi, Builtin.lenOf, Builtin.firstCells, loadCells, loadCellsFrom]
      · have hr := run_append_nil (P := P) (ty := ty) w t e i z ht hi hz ad m c news hl hnw (by omega) (by omega) (by have hb := hbytes; rw [hn] at hb; simp only [Nat.zero_add] at hb; omega)
        exact key _ _ hr (fun h => absurd h hm) (fun b hb => .inr (by simp [Value.ownBlock] at hb; omega)) v'' w'' hr'' ho hg
    · by_cases hroom : n + m ≤ cap
      · have hfit : n * i.size + news.length ≤ cur.size := by rw [hl, hcs, ← Nat.add_mul]; exact Nat.mul_le_mul_right _ hroom
        have hr := run_append_room (P := P) (ty := ty) w t e i ht hi g n cap cur hgc ad m c news hl hnw h1 hroom hfit
        refine key _ _ hr (fun h => by subst h; rfl) (fun b hb => .inl (by simpa [Value.ownBlock] using hb)) v'' w'' hr'' ho hg
      · have holds : ∀ j u, xs[j]? = some u → w.cell? ((⟨g, 0, none⟩ : Addr).add j) = some u := hown.cells (g := g) rfl
        have hr := run_append_grow (P := P) (ty := ty) w t e i z ht hi hz ⟨g, 0, none⟩ n cap xs hown.1 holds ad m c news hl hnw (by omega) (by omega) (growslice_fits (by omega) hbytes)
        exact key _ _ hr (fun h => by omega) (fun b hb => .inr (by simp [Value.ownBlock] at hb; omega)) v'' w'' hr'' ho hg

theorem rowOk_of {t : TypeId} {e n : Nat} {v : Value} {xs : List Value} (h : w.ownsRow 0 t e v n xs) : RowOk w t e v n xs := by
  refine ⟨h.1, ?_⟩
  rcases h.2 with ⟨rfl, h0⟩ | ⟨g, cap, cur, rfl, _, hg, hn, hm, hs, ht⟩
  · exact .inl ⟨h0, none, rfl⟩
  · rcases Nat.eq_zero_or_pos cap with rfl | hc
    · obtain rfl : n = 0 := by omega
      exact .inl ⟨rfl, _, rfl⟩
    · exact .inr ⟨g, cap, cur, rfl, hc, hg, hn, hm, hs, ht⟩
theorem rowB_own {v : Value} {b : Nat} (h : rowB v = some b) : v.ownBlock = some b := by
  unfold rowB at h
  split at h
  · exact h
  · cases h
/-- An append that must make a new row. -/
theorem append_fresh {P : Program} {t ty e : TypeId} {i : TypeInfo} {z : Value} (ht : P.underlying t = some (.slice e)) (hi : P.info? e = some i) (hz : i.zero = some z) (hzs : z.cells.size = i.size) (hsz : 0 < i.size)
    {adx : Option Addr} {n c0 : Nat} {us : List Value} (hul : us.length = n * i.size) (hux : ∀ b, adx = some b → ∀ j u, us[j]? = some u → w.cell? (b.add j) = some u) (hun : adx = none → n = 0 ∧ c0 = 0) (hnc : n ≤ c0)
    (ad : Option Addr) (m c : Nat) (news : List Value) (hnil : ad = none → m = 0 ∧ c = 0) (hl : news.length = m * i.size)
    (hnews : ∀ b, ad = some b → ∀ j u, news[j]? = some u → w.cell? (b.add j) = some u) (hcap : c0 < n + m)
    (h63 : n + m ≤ maxLen) (hbytes : (n + m) * i.bytes ≤ 140737488355328) :
    ∃ w' cap', (Builtin.append_ #[t, t] ty #[.slice adx n c0, .slice ad m c]).run P w = .ok (.slice (some ⟨w.heap.size, 0, none⟩) (n + m) cap') w' ∧
      RowOk w' e i.size (.slice (some ⟨w.heap.size, 0, none⟩) (n + m) cap') (n + m) (us ++ news) ∧ w.grownBy w' none := by
  have hm0 : 0 < m := by omega
  cases ad with
  | none => have := (hnil rfl).1; omega
  | some ad =>
    have hown : ∀ old, old < n + m → ∀ w', w' = (w.drew.alloc (.cells (us.toArray ++ news.toArray ++ Builtin.zeroCells z.cells (grownCap w (n + m) old e - (n + m))) e)) →
        RowOk w' e i.size (.slice (some ⟨w.heap.size, 0, none⟩) (n + m) (grownCap w (n + m) old e)) (n + m) (us ++ news) ∧ w.grownBy w' none := by
      intro old ho w' hw'
      subst hw'
      have hge := grownCap_ge w (n + m) old e
      have hcm : grownCap w (n + m) old e ≤ maxLen := grownCap_le_maxLen w (n + m) old e h63
      have hlen : (us ++ news).length = (n + m) * i.size := by rw [List.length_append, hul, hl, Nat.add_mul]
      refine ⟨⟨hlen, .inr ⟨w.heap.size, _, _, rfl, by omega, heap_alloc_new w.drew _, hge, hcm, ?_, ?_⟩⟩, ⟨rfl, rfl, rfl, by simp, fun k hk _ => heap_alloc_old w.drew _ (by simpa using hk)⟩⟩
      · simp only [Array.size_append, List.size_toArray, size_zeroCells, hzs]
        rw [hul, hl, ← Nat.add_mul, ← Nat.add_mul]
        congr 1
        omega
      · simp only [Array.toList_append, List.append_assoc]
        rw [← List.append_assoc, ← hlen]
        exact List.take_left
    have hsm : n + m ≤ 9223372036854775807 := by simp only [maxLen] at h63; omega
    cases adx with
    | none =>
      obtain ⟨rfl, rfl⟩ := hun rfl
      have hus : us = [] := List.eq_nil_of_length_eq_zero (by simpa using hul)
      subst hus
      have hr0 := run_append_nil (P := P) (ty := ty) w t e i z ht hi hz ad m c news hl (hnews ad rfl) hm0 (by omega) (by rw [Nat.zero_add] at hbytes; omega)
      have := hown 0 (by omega) _ rfl
      simp only [Nat.zero_add, List.nil_append, Array.empty_append] at this ⊢
      exact ⟨_, _, hr0, this.1, this.2⟩
    | some adx =>
      have hr0 := run_append_grow (P := P) (ty := ty) w t e i z ht hi hz adx n c0 us hul (hux adx rfl) ad m c news hl (hnews ad rfl) hcap (by omega) (growslice_fits (by omega) hbytes)
      have := hown c0 hcap _ rfl
      exact ⟨_, _, hr0, this.1, this.2⟩
/-- An append to a row. -/
theorem append_row {P : Program} {t ty e : TypeId} {i : TypeInfo} {z : Value} (ht : P.underlying t = some (.slice e)) (hi : P.info? e = some i) (hz : i.zero = some z) (hzs : z.cells.size = i.size) (hsz : 0 < i.size)
    {v : Value} {n : Nat} {xs : List Value} (hown : RowOk w e i.size v n xs) (ad : Option Addr) (m c : Nat) (news : List Value) (hnil : ad = none → m = 0 ∧ c = 0) (hl : news.length = m * i.size)
    (hnews : ∀ b, ad = some b → ∀ j u, news[j]? = some u → w.cell? (b.add j) = some u) (h1 : ∀ u ∈ news, u.oneCell' = true)
    (h63 : n + m ≤ maxLen) (hbytes : (n + m) * i.bytes ≤ 140737488355328) :
    ∃ v' w', (Builtin.append_ #[t, t] ty #[v, .slice ad m c]).run P w = .ok v' w' ∧ RowOk w' e i.size v' (n + m) (xs ++ news) ∧ w.grownBy w' (rowB v) ∧
      (v' = v ∧ m = 0 ∨ 0 < m) ∧ (∀ b, rowB v' = some b → rowB v = some b ∨ w.heap.size ≤ b) := by
  rcases hown.2 with ⟨rfl, adx, rfl⟩ | ⟨g, cap, cur, rfl, hc, hg, hn, hm, hs, htk⟩
  · have hx : xs = [] := List.eq_nil_of_length_eq_zero (by rw [hown.1]; simp)
    subst hx
    rcases Nat.eq_zero_or_pos m with rfl | hm0
    · have hn0 : news = [] := List.eq_nil_of_length_eq_zero (by simpa using hl)
      subst hn0
      refine ⟨.slice adx 0 0, w, ?_, by simpa using hown, World.grownBy.refl w _, .inl ⟨rfl, rfl⟩, fun b hb => .inl hb⟩
      have hfc : (Builtin.firstCells i.size 0 (.slice ad 0 c)).run P w = .ok #[] w := by
        cases ad <;> simp [Builtin.firstCells, loadCells, loadCellsFrom]
      cases adx with
      | none => simp [Builtin.append_, run_underlying ht, sizeOf, typeInfo, hi, Builtin.lenOf, hfc]
      | some b => simp [Builtin.append_, run_underlying ht, sizeOf, typeInfo, hi, Builtin.lenOf, hfc, storeCells]
    · obtain ⟨w', cap', h2, h3, h4⟩ := append_fresh (P := P) (ty := ty) ht hi hz hzs hsz (adx := adx) (n := 0) (c0 := 0) (us := []) (by simp) (fun b _ j u hu => by simp at hu) (fun _ => ⟨rfl, rfl⟩) (Nat.le_refl _) ad m c news hnil hl hnews (by omega) h63 hbytes
      refine ⟨_, w', h2, h3, ?_, .inr hm0, fun b hb => ?_⟩
      · have : rowB (.slice adx 0 0) = none := by cases adx <;> rfl
        rw [this]; exact h4
      · have := rowB_own hb
        simp [Value.ownBlock] at this
        exact .inr (by omega)
  · have hown' : w.ownsRow 0 e i.size (.slice (some ⟨g, 0, none⟩) n cap) n xs := ⟨hown.1, .inr ⟨g, cap, cur, rfl, Nat.zero_le _, hg, hn, hm, hs, htk⟩⟩
    obtain ⟨v', w', h2, h3, h4, h5, h6⟩ := append_blk (P := P) (ty := ty) ht hi hz hzs hsz hown' ad m c news hnil hl hnews h1 h63 hbytes
    refine ⟨v', w', h2, rowOk_of h3, by rw [rowB_some hc]; exact h4, h5, fun b hb => ?_⟩
    rcases h6 b (rowB_own hb) with h | h
    · left; rw [rowB_some hc]; simpa [Value.ownBlock] using h
    · exact .inr h

/-! What moves into a row. -/
/-- The blocks of 'ks' go to k. -/
def relab (ω : Lab) (ks : List Nat) (k : Nat) : Lab := fun b => match ω b with
  | .ob j => if j ∈ ks then .ob k else .ob j
  | l => l
theorem relab_nil (ω : Lab) (k : Nat) : relab ω [] k = ω := by
  funext b
  unfold relab
  cases ω b <;> simp
theorem relab_im {ω : Lab} {ks : List Nat} {k b : Nat} (h : ω b = .im) : relab ω ks k b = .im := by unfold relab; rw [h]
theorem relab_no {ω : Lab} {ks : List Nat} {k b : Nat} (h : ω b = .no) : relab ω ks k b = .no := by unfold relab; rw [h]
theorem relab_no' {ω : Lab} {ks : List Nat} {k b : Nat} (h : relab ω ks k b ≠ .no) : ω b ≠ .no := fun e => h (relab_no e)
theorem relab_k {ω : Lab} {ks : List Nat} {k b : Nat} (h : ω b = .ob k) : relab ω ks k b = .ob k := by unfold relab; rw [h]; simp
theorem relab_in {ω : Lab} {ks : List Nat} {k j b : Nat} (h : ω b = .ob j) (hj : j ∈ ks) : relab ω ks k b = .ob k := by unfold relab; rw [h]; simp [hj]
theorem relab_out {ω : Lab} {ks : List Nat} {k j b : Nat} (h : ω b = .ob j) (hj : j ∉ ks) : relab ω ks k b = .ob j := by unfold relab; rw [h]; simp [hj]
def delL (σ : Sto) : List Nat → Sto
  | [] => σ
  | k :: r => delL (del σ k) r
theorem get_delL (ks : List Nat) : ∀ (σ : Sto) (j : Nat), get (delL σ ks) j = if j ∈ ks then none else get σ j := by
  induction ks with
  | nil => intro σ j; simp [delL]
  | cons k r ih =>
    intro σ j
    rw [delL, ih, get_del]
    by_cases h1 : j = k
    · simp [h1]
    · simp [h1]
/-- The trees 'ys' are the objects 'ks' own, or shared by all. -/
def Src (w : World) (ω : Lab) (ks : List Nat) (own : Bool) (ys : List IV) (vs : List Value) : Prop :=
  if own then ys.length = vs.length ∧ ∃ T : Nat → Nat → Prop, (∀ j x v, ys[j]? = some x → vs[j]? = some v → RO w x v (T j)) ∧ (∀ i j b, i < ys.length → j < ys.length → i ≠ j → T i b → ¬ T j b) ∧
    ∀ j b, j < ys.length → T j b → ∃ i ∈ ks, ω b = .ob i
  else All2 (RI w ω) ys vs
theorem Src.len {ks : List Nat} {own : Bool} {ys : List IV} {vs : List Value} (h : Src w ω ks own ys vs) : ys.length = vs.length := by
  unfold Src at h
  split at h
  · exact h.1
  · exact h.1
theorem Src.one {ks : List Nat} {own : Bool} {ys : List IV} {vs : List Value} (h : Src w ω ks own ys vs) : ∀ u ∈ vs, u.oneCell' = true := fun u hu => by
  obtain ⟨j, hj⟩ := List.getElem?_of_mem hu
  have hl : j < ys.length := by rw [h.len]; exact (List.getElem?_eq_some_iff.1 hj).1
  unfold Src at h
  split at h
  · obtain ⟨_, T, h1, _⟩ := h
    exact (h1 j ys[j] u (by simp [hl]) hj).one
  · exact (h.2 j ys[j] u (by simp [hl]) hj).one
theorem CellsOk.len {k : Nat} {g : Option Nat} {own : Bool} {cs : List IV} {xs : List Value} (h : CellsOk w ω k g own cs xs) : cs.length = xs.length := by
  unfold CellsOk at h
  split at h
  · exact h.1
  · exact h.1
/-- Trees are set into a row's cells. -/
theorem CellsOk.set {k off : Nat} {g : Option Nat} {own : Bool} {cs ys : List IV} {xs vs : List Value} {ks : List Nat} (h : CellsOk w ω k g own cs xs) (hs : Src w ω ks own ys vs) (hk : k ∉ ks) (hg : ∀ b, g = some b → ω b = .ob k)
    (hw : ∀ b, ω b ≠ .no → some b ≠ g → w'.heap[b]? = w.heap[b]?) (hl : off + ys.length ≤ cs.length) : CellsOk w' (relab ω ks k) k g own (setL cs off ys) (setL xs off vs) := by
  have hcl := h.len
  have hsl := hs.len
  unfold CellsOk Src at *
  cases own with
  | true =>
    simp only [if_true] at *
    obtain ⟨_, Ss, h1, h2, h3⟩ := h
    obtain ⟨_, T, h4, h5, h6⟩ := hs
    have hT : ∀ j b, j < ys.length → T j b → some b ≠ g := fun j b hj hb e => by
      obtain ⟨i, hi, hib⟩ := h6 j b hj hb
      have := hg b e.symm
      rw [hib] at this
      injection this with this
      exact hk (this ▸ hi)
    refine ⟨by rw [setL_len, setL_len, hcl], fun j b => if off ≤ j ∧ j < off + ys.length then T (j - off) b else Ss j b, fun j x v hx hv => ?_, fun i j b hi hj hij hb hb' => ?_, fun j b hj hb => ?_⟩
    · rw [setL_get hl] at hx
      rw [setL_get (by omega)] at hv
      by_cases hc : off ≤ j ∧ j < off + ys.length
      · rw [if_pos hc] at hx
        rw [if_pos (by omega)] at hv
        have hj := (List.getElem?_eq_some_iff.1 hx).1
        refine ((h4 (j - off) x v hx hv).kept (w' := w') fun b hb => ?_).congr fun b => by simp [hc]
        obtain ⟨i, hi, hib⟩ := h6 _ b hj hb
        exact hw b (by rw [hib]; simp) (hT _ b hj hb)
      · rw [if_neg hc] at hx
        rw [if_neg (by omega)] at hv
        have hj := (List.getElem?_eq_some_iff.1 hx).1
        refine ((h1 j x v hx hv).kept (w' := w') fun b hb => ?_).congr fun b => by simp [hc]
        exact hw b (by rw [(h3 j b hj hb).1]; simp) (h3 j b hj hb).2
    · rw [setL_len] at hi hj
      by_cases hc : off ≤ i ∧ i < off + ys.length <;> by_cases hc' : off ≤ j ∧ j < off + ys.length <;> simp only [hc, hc', and_self, if_true, if_false] at hb hb'
      · exact h5 _ _ b (by omega) (by omega) (by omega) hb hb'
      · obtain ⟨q, hq, hqb⟩ := h6 _ b (by omega) hb
        have := (h3 j b hj hb').1
        rw [hqb] at this; injection this with this; exact hk (this ▸ hq)
      · obtain ⟨q, hq, hqb⟩ := h6 _ b (by omega) hb'
        have := (h3 i b hi hb).1
        rw [hqb] at this; injection this with this; exact hk (this ▸ hq)
      · exact h2 i j b hi hj hij hb hb'
    · rw [setL_len] at hj
      by_cases hc : off ≤ j ∧ j < off + ys.length <;> simp only [hc, and_self, if_true, if_false] at hb
      · obtain ⟨q, hq, hqb⟩ := h6 _ b (by omega) hb
        exact ⟨relab_in hqb hq, hT _ b (by omega) hb⟩
      · exact ⟨relab_k (h3 j b hj hb).1, (h3 j b hj hb).2⟩
  | false =>
    simp only [Bool.false_eq_true, if_false] at *
    have hkept : ∀ x v, RI w ω x v → RI w' (relab ω ks k) x v := fun x v hr => hr.kept fun b hb => ⟨relab_im hb, hw b (by rw [hb]; simp) fun e => by rw [hg b e.symm] at hb; cases hb⟩
    exact (hs.imp fun x y _ hxy => hkept x y hxy).setL off (h.imp fun x y _ hxy => hkept x y hxy)
/-- Trees are put behind a row's cells. -/
theorem CellsOk.add {k : Nat} {g g' : Option Nat} {own : Bool} {cs ys : List IV} {xs vs : List Value} {ks : List Nat} (h : CellsOk w ω k g own cs xs) (hs : Src w ω ks own ys vs) (hk : k ∉ ks) (hg : ∀ b, g = some b → ω b = .ob k) (hg' : ∀ b, g' = some b → g = some b ∨ w.heap.size ≤ b)
    (hw : ∀ b, ω b ≠ .no → some b ≠ g → w'.heap[b]? = w.heap[b]?) (hdom : ∀ b, ω b ≠ .no → b < w.heap.size) {ω' : Lab} (hω : ∀ b, b < w.heap.size → ω' b = relab ω ks k b) : CellsOk w' ω' k g' own (cs ++ ys) (xs ++ vs) := by
  have hcl := h.len
  have hsl := hs.len
  have hne : ∀ b, ω b ≠ .no → some b ≠ g → some b ≠ g' := fun b hb h1 h2 => by
    rcases hg' b h2.symm with h | h
    · exact h1 h.symm
    · have := hdom b hb; omega
  unfold CellsOk Src at *
  cases own with
  | true =>
    simp only [if_true] at *
    obtain ⟨_, Ss, h1, h2, h3⟩ := h
    obtain ⟨_, T, h4, h5, h6⟩ := hs
    have hT : ∀ j b, j < ys.length → T j b → some b ≠ g := fun j b hj hb e => by
      obtain ⟨i, hi, hib⟩ := h6 j b hj hb
      have := hg b e.symm
      rw [hib] at this
      injection this with this
      exact hk (this ▸ hi)
    refine ⟨by simp [hcl, hsl], fun j b => if j < cs.length then Ss j b else T (j - cs.length) b, fun j x v hx hv => ?_, fun i j b hi hj hij hb hb' => ?_, fun j b hj hb => ?_⟩
    · by_cases hc : j < cs.length
      · rw [List.getElem?_append_left hc] at hx
        rw [List.getElem?_append_left (by omega)] at hv
        refine ((h1 j x v hx hv).kept (w' := w') fun b hb => ?_).congr fun b => by simp [hc]
        exact hw b (by rw [(h3 j b hc hb).1]; simp) (h3 j b hc hb).2
      · rw [List.getElem?_append_right (by omega)] at hx
        rw [List.getElem?_append_right (by omega), ← hcl] at hv
        have hj := (List.getElem?_eq_some_iff.1 hx).1
        refine ((h4 _ x v hx hv).kept (w' := w') fun b hb => ?_).congr fun b => by simp [hc]
        obtain ⟨i, hi, hib⟩ := h6 _ b hj hb
        exact hw b (by rw [hib]; simp) (hT _ b hj hb)
    · rw [List.length_append] at hi hj
      by_cases hc : i < cs.length <;> by_cases hc' : j < cs.length <;> simp only [hc, hc', if_true, if_false] at hb hb'
      · exact h2 i j b hc hc' hij hb hb'
      · obtain ⟨q, hq, hqb⟩ := h6 _ b (by omega) hb'
        have := (h3 i b hc hb).1
        rw [hqb] at this; injection this with this; exact hk (this ▸ hq)
      · obtain ⟨q, hq, hqb⟩ := h6 _ b (by omega) hb
        have := (h3 j b hc' hb').1
        rw [hqb] at this; injection this with this; exact hk (this ▸ hq)
      · exact h5 _ _ b (by omega) (by omega) (by omega) hb hb'
    · rw [List.length_append] at hj
      by_cases hc : j < cs.length <;> simp only [hc, if_true, if_false] at hb
      · have h7 := (h3 j b hc hb).1
        have h8 : ω b ≠ .no := by rw [h7]; simp
        exact ⟨by rw [hω b (hdom b h8)]; exact relab_k h7, hne b h8 (h3 j b hc hb).2⟩
      · obtain ⟨q, hq, hqb⟩ := h6 _ b (by omega) hb
        have h8 : ω b ≠ .no := by rw [hqb]; simp
        exact ⟨by rw [hω b (hdom b h8)]; exact relab_in hqb hq, hne b h8 (hT _ b (by omega) hb)⟩
  | false =>
    simp only [Bool.false_eq_true, if_false] at *
    have hkept : ∀ x v, RI w ω x v → RI w' ω' x v := fun x v hr => hr.kept fun b hb => ⟨by rw [hω b (hdom b (by rw [hb]; simp))]; exact relab_im hb, hw b (by rw [hb]; simp) fun e => by rw [hg b e.symm] at hb; cases hb⟩
    exact (h.imp fun x y _ hxy => hkept x y hxy).append (hs.imp fun x y _ hxy => hkept x y hxy)
end
end Go.VC
