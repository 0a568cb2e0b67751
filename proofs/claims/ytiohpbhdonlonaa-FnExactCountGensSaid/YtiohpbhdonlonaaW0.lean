/- Abstract values of a Go function's variables, and how a world of the machine bears them: no statement of a program. -/
import Derived.Below
import Derived.Tactics
import Derived.Laws.AppendOwn
import Derived.Laws.OwnMore
import Derived.Laws.MakeOwn
import Derived.Orders
set_option linter.unusedSimpArgs false
set_option linter.unusedVariables false
namespace Go.VC
open Go Go.RowKit

/-- A value that leads to no memory. -/
def scalarB : Value → Bool
  | .bool _ | .int _ _ | .float _ _ | .string _ | .pointer none | .map none | .nilFunc | .nilIface => true
  | _ => false

/-- A tree: a scalar; a slice (its length, its cells); a pointer (the cells from there on); a function with what it captured. -/
inductive IV where
  | sc (v : Value)
  | sl (n : Nat) (cs : List IV)
  | pt (cs : List IV)
  | fn (f : FuncId) (caps : List IV)
  deriving Inhabited

/-- To whom a block belongs: to nobody that counts; to all, and it is never written again; to the object k. -/
inductive Lb where
  | no
  | im
  | ob (k : Nat)
  deriving DecidableEq, Inhabited
abbrev Lab := Nat → Lb

/-- The value 'v' reads as the tree 'x' in the world 'w', by blocks that are never written again. -/
inductive RI (w : World) (ω : Lab) : IV → Value → Prop
  | sc (v : Value) : scalarB v = true → RI w ω (.sc v) v
  | slnil : RI w ω (.sl 0 []) (.slice none 0 0)
  | sl (n c : Nat) (cs : List IV) (a : Addr) (vs : Nat → Value) : (cs ≠ [] → ω a.block = .im) → n ≤ c → c ≤ maxLen →
      (∀ j, j < cs.length → w.cell? (a.add j) = some (vs j)) → (∀ j x, cs[j]? = some x → RI w ω x (vs j)) → RI w ω (.sl n cs) (.slice (some a) n c)
  | pt (cs : List IV) (a : Addr) (vs : Nat → Value) : (cs ≠ [] → ω a.block = .im) →
      (∀ j, j < cs.length → w.cell? (a.add j) = some (vs j)) → (∀ j x, cs[j]? = some x → RI w ω x (vs j)) → RI w ω (.pt cs) (.pointer (some a))
  | fn (f : FuncId) (caps : List IV) (vs : List Value) : vs.length = caps.length → (∀ j x, caps[j]? = some x → RI w ω x (vs.getD j undef)) → RI w ω (.fn f caps) (.func (.func f) #[] vs.toArray)

theorem RI.one {w : World} {ω : Lab} {x : IV} {v : Value} (h : RI w ω x v) : v.oneCell' = true := by
  cases h with
  | sc v hs => cases v <;> simp_all [scalarB, Value.oneCell']
  | _ => rfl

theorem addr_add_block (a : Addr) (m : Nat) : (a.add m).block = a.block := by unfold Addr.add; split <;> rfl
theorem addr_add_add (a : Addr) (m n : Nat) : (a.add m).add n = a.add (m + n) := by
  unfold Addr.add
  by_cases hm : m = 0 <;> by_cases hn : n = 0 <;> simp [hm, hn, Nat.add_assoc]

/-- What is read stays read where its blocks stay. -/
theorem RI.kept {w w' : World} {ω ω' : Lab} {x : IV} {v : Value} (hD : ∀ b, ω b = .im → ω' b = .im ∧ w'.heap[b]? = w.heap[b]?) (h : RI w ω x v) : RI w' ω' x v := by
  induction h with
  | sc v hs => exact .sc v hs
  | slnil => exact .slnil
  | sl n c cs a vs hd hn hm hcell _ ih => exact .sl n c cs a vs (fun h => (hD _ (hd h)).1) hn hm (fun j hj => by rw [World.cell?_of_block (w := w)]; exact hcell j hj; rw [addr_add_block]; exact (hD _ (hd (by rintro rfl; simp at hj))).2) ih
  | pt cs a vs hd hcell _ ih => exact .pt cs a vs (fun h => (hD _ (hd h)).1) (fun j hj => by rw [World.cell?_of_block (w := w)]; exact hcell j hj; rw [addr_add_block]; exact (hD _ (hd (by rintro rfl; simp at hj))).2) ih
  | fn f caps vs hl _ ih => exact .fn f caps vs hl ih

/-- The value 'v' reads as the tree 'x', by the blocks 'S', each reached once. -/
inductive RO (w : World) : IV → Value → (Nat → Prop) → Prop
  | sc (v : Value) (S : Nat → Prop) : scalarB v = true → (∀ b, ¬ S b) → RO w (.sc v) v S
  | z (a : Option Addr) (S : Nat → Prop) : (∀ b, ¬ S b) → RO w (.sl 0 []) (.slice a 0 0) S
  | sl (n c g : Nat) (t : TypeId) (arr : Array Value) (cs : List IV) (Ss : Nat → Nat → Prop) (S : Nat → Prop) : w.heap[g]? = some (.cells arr t (0, 0)) → 0 < c → n ≤ c → c ≤ maxLen → cs.length ≤ arr.size →
      (∀ j x, cs[j]? = some x → RO w x (arr.getD j undef) (Ss j)) → (∀ j, j < cs.length → ¬ Ss j g) → (∀ i j b, i < cs.length → j < cs.length → i ≠ j → Ss i b → ¬ Ss j b) →
      (∀ b, S b ↔ b = g ∨ ∃ j, j < cs.length ∧ Ss j b) → RO w (.sl n cs) (.slice (some ⟨g, 0, none⟩) n c) S

theorem RO.one {w : World} {x : IV} {v : Value} {S : Nat → Prop} (h : RO w x v S) : v.oneCell' = true := by
  cases h with
  | sc v S hs => cases v <;> simp_all [scalarB, Value.oneCell']
  | _ => rfl
theorem RO.kept {w w' : World} {x : IV} {v : Value} {S : Nat → Prop} (h : RO w x v S) : (∀ b, S b → w'.heap[b]? = w.heap[b]?) → RO w' x v S := by
  induction h with
  | sc v S hs he => intro _; exact .sc v S hs he
  | z a S he => intro _; exact .z a S he
  | sl n c g t arr cs Ss S hg hc hn hm hl _ h1 h2 h3 ih =>
    intro hw
    refine .sl n c g t arr cs Ss S (by rw [hw g ((h3 g).2 (.inl rfl))]; exact hg) hc hn hm hl (fun j x hx => ih j x hx fun b hb => hw b ((h3 b).2 (.inr ⟨j, (List.getElem?_eq_some_iff.1 hx).1, hb⟩))) h1 h2 h3
theorem RO.lt {w : World} {x : IV} {v : Value} {S : Nat → Prop} (h : RO w x v S) : ∀ b, S b → b < w.heap.size := by
  induction h with
  | sc v S hs he => intro b hb; exact (he b hb).elim
  | z a S he => intro b hb; exact (he b hb).elim
  | sl n c g t arr cs Ss S hg hc hn hm hl _ h1 h2 h3 ih =>
    intro b hb
    rcases (h3 b).1 hb with rfl | ⟨j, hj, hb⟩
    · exact (Array.getElem?_eq_some_iff.1 hg).1
    · exact ih j cs[j] (by simp [hj]) b hb
theorem RO.congr {w : World} {x : IV} {v : Value} {S S' : Nat → Prop} (h : RO w x v S) (hS : ∀ b, S b ↔ S' b) : RO w x v S' := by
  have : S = S' := funext fun b => propext (hS b)
  rw [← this]; exact h
theorem cell_row {w : World} {g o : Nat} {vs : Array Value} {t : TypeId} {fr : Nat × Nat} (h : w.heap[g]? = some (.cells vs t fr)) : w.cell? ⟨g, o, none⟩ = vs[o]? := by simp [World.cell?, h]
theorem addr_add_lit (b j : Nat) : (⟨b, 0, none⟩ : Addr).add j = ⟨b, j, none⟩ := by rw [Addr.add_lit]; simp
/-- What belongs to one may be made all's. -/
theorem RO.im {w : World} {ω : Lab} {x : IV} {v : Value} {S : Nat → Prop} (h : RO w x v S) : (∀ b, S b → ω b = .im) → RI w ω x v := by
  induction h with
  | sc v S hs he => intro _; exact .sc v hs
  | z a S he =>
    intro _
    cases a with
    | none => exact .slnil
    | some a => exact .sl 0 0 [] a (fun _ => undef) (fun h => absurd rfl h) (Nat.le_refl _) (by simp [maxLen]) (fun j hj => by simp at hj) (fun j x hx => by simp at hx)
  | sl n c g t arr cs Ss S hg hc hn hm hl _ h1 h2 h3 ih =>
    intro hS
    refine .sl n c cs ⟨g, 0, none⟩ (fun j => arr.getD j undef) (fun _ => hS g ((h3 g).2 (.inl rfl))) hn hm (fun j hj => ?_) fun j x hx => ih j x hx fun b hb => hS b ((h3 b).2 (.inr ⟨j, (List.getElem?_eq_some_iff.1 hx).1, hb⟩))
    rw [addr_add_lit, cell_row hg]
    simp [Array.getD, show j < arr.size by omega]

/-- A cell of a variable: a tree; the nil slice; a slice of a known capacity; a pointer to a cell of a box of the call's own; a pointer to a cell of its own row; the whole of an own row, n elements long; a part of an own row; what stands in cell j of an own row; a map of its own; a function; unknown. -/
inductive Cell where
  | im (x : IV)
  | nl
  | ik (c n : Nat) (cs : List IV)
  | rf (k off : Nat)
  | rv (k len off : Nat)
  | os (k n : Nat)
  | ov (k n off m : Nat)
  | ns (k j : Nat)
  | mp (k : Nat)
  | fn (f : FuncId) (caps : List Cell)
  | bad
  deriving Inhabited

/-- An object of the call's own: a variable in memory; a row that may grow ('own': what its cells lead to is its own as well); a row of a fixed length, all of it its own. -/
inductive Ob where
  | box (t : TypeId) (cs : List Cell)
  | vec (t : TypeId) (esz n : Nat) (cs : List IV) (own : Bool)
  | row (n : Nat) (cs : List IV)
  deriving Inhabited
def Ob.len? : Ob → Option Nat
  | .box _ _ => none
  | .vec _ _ n _ _ => some n
  | .row n _ => some n

/-- Lists of pairs: the first one with a key counts. -/
def get {α : Type} : List (Nat × α) → Nat → Option α
  | [], _ => none
  | (k, o) :: r, i => if i = k then some o else get r i
def del {α : Type} : List (Nat × α) → Nat → List (Nat × α)
  | [], _ => []
  | (k, o) :: r, i => if i = k then del r i else (k, o) :: del r i
/-- It is turned at its place. -/
def upd {α : Type} : List (Nat × α) → Nat → α → List (Nat × α)
  | [], _, _ => []
  | (k, p) :: r, i, o => if i = k then (k, o) :: r else (k, p) :: upd r i o
abbrev Sto := List (Nat × Ob)

theorem get_nil {α : Type} (i : Nat) : get ([] : List (Nat × α)) i = none := rfl
theorem get_cons {α : Type} (k : Nat) (o : α) (r : List (Nat × α)) (i : Nat) : get ((k, o) :: r) i = if i = k then some o else get r i := rfl
theorem get_append {α : Type} (l r : List (Nat × α)) (i : Nat) : get (l ++ r) i = (get l i).or (get r i) := by
  induction l with
  | nil => rfl
  | cons p l ih =>
    obtain ⟨k, o⟩ := p
    rw [List.cons_append, get_cons, get_cons, ih]
    split <;> rfl
theorem get_del {α : Type} (σ : List (Nat × α)) (i j : Nat) : get (del σ i) j = if j = i then none else get σ j := by
  induction σ with
  | nil => simp [get, del]
  | cons p r ih =>
    obtain ⟨k, o⟩ := p
    by_cases h : i = k
    · subst h
      simp only [del, if_true, ih, get]
      by_cases hj : j = i <;> simp [hj]
    · simp only [del, h, if_false, get, ih]
      by_cases hj : j = k
      · subst hj; simp [Ne.symm h]
      · simp [hj]
theorem get_upd {α : Type} (σ : List (Nat × α)) (i j : Nat) (o : α) (h : (get σ i).isSome = true) : get (upd σ i o) j = if j = i then some o else get σ j := by
  induction σ with
  | nil => simp [get] at h
  | cons p r ih =>
    obtain ⟨k, q⟩ := p
    by_cases hk : i = k
    · subst hk
      simp only [upd, if_true, get]
      by_cases hj : j = i <;> simp [hj]
    · simp only [get, hk, if_false] at h
      simp only [upd, hk, if_false, get, ih h]
      by_cases hj : j = k
      · subst hj; simp [Ne.symm hk]
      · simp [hj]

/-- A part of a row: m elements from cell off on. -/
def OvOk (kv : Value) (off : Nat) (a : Option Addr) (m c : Nat) : Prop :=
  m ≤ c ∧ c ≤ maxLen ∧ (0 < c → ∃ b l c', kv = .slice (some ⟨b, 0, none⟩) l c' ∧ a = some ⟨b, off, none⟩) ∧ (off = 0 → ∃ l, kv = .slice a l c)
/-- How the world bears a cell's value: 'κ' tells each own object's value (a box: its address; a row: its slice). -/
inductive RC (w : World) (ω : Lab) (κ : Nat → Value) (σ : Sto) : Cell → Value → Prop
  | im (x : IV) (v : Value) : RI w ω x v → RC w ω κ σ (.im x) v
  | nl : RC w ω κ σ .nl (.slice none 0 0)
  | ik (c n : Nat) (cs : List IV) (a : Option Addr) : RI w ω (.sl n cs) (.slice a n c) → RC w ω κ σ (.ik c n cs) (.slice a n c)
  | rf (k off b : Nat) : κ k = .pointer (some ⟨b, 0, none⟩) → RC w ω κ σ (.rf k off) (.pointer (some ⟨b, off, none⟩))
  | rv (k len off : Nat) (a : Addr) : (∀ o m, get σ k = some o → o.len? = some m → len ≤ m ∧ (m = len → ∃ b n c, κ k = .slice (some ⟨b, 0, none⟩) n c ∧ a = ⟨b, off, none⟩)) → RC w ω κ σ (.rv k len off) (.pointer (some a))
  | os (k n : Nat) (a : Option Addr) (c : Nat) : n ≤ c → (a = none → c = 0) → (∀ o m, get σ k = some o → o.len? = some m → n ≤ m ∧ (m = n → κ k = .slice a n c)) → RC w ω κ σ (.os k n) (.slice a n c)
  | ov (k n off m : Nat) (a : Option Addr) (c : Nat) : m ≤ c → (a = none → c = 0) → (∀ o l, get σ k = some o → o.len? = some l → n ≤ l ∧ (l = n → OvOk (κ k) off a m c)) → RC w ω κ σ (.ov k n off m) (.slice a m c)
  | ns (k j : Nat) (v : Value) : (∀ o m, get σ k = some o → o.len? = some m → ∃ b n c, κ k = .slice (some ⟨b, 0, none⟩) n c ∧ 0 < c ∧ w.cell? ⟨b, j, none⟩ = some v) → RC w ω κ σ (.ns k j) v
  | mp (k r : Nat) : κ k = .map (some r) → RC w ω κ σ (.mp k) (.map (some r))
  | fn (f : FuncId) (caps : List Cell) (vs : List Value) : vs.length = caps.length → (∀ j x, caps[j]? = some x → RC w ω κ σ x (vs.getD j undef)) → RC w ω κ σ (.fn f caps) (.func (.func f) #[] vs.toArray)
  | bad (v : Value) : RC w ω κ σ .bad v

def All2 {α β : Type} (R : α → β → Prop) (xs : List α) (ys : List β) : Prop := xs.length = ys.length ∧ ∀ (j : Nat) (x : α) (y : β), xs[j]? = some x → ys[j]? = some y → R x y

/-- A variable's value: one cell; several; the results of a call. -/
inductive TV where
  | c (x : Cell)
  | ag (cs : List Cell)
  | tp (ts : List TV)
  deriving Inhabited

def RT1 (w : World) (ω : Lab) (κ : Nat → Value) (σ : Sto) : TV → Value → Prop
  | .c x, v => RC w ω κ σ x v
  | .ag cs, v => ∃ vs : List Value, v = .agg vs.toArray ∧ All2 (RC w ω κ σ) cs vs ∧ ∀ u ∈ vs, u.oneCell' = true
  | .tp _, _ => False
def RT (w : World) (ω : Lab) (κ : Nat → Value) (σ : Sto) : TV → Value → Prop
  | .tp ts, v => ∃ vs : List Value, v = .tuple vs.toArray ∧ All2 (RT1 w ω κ σ) ts vs
  | x, v => RT1 w ω κ σ x v

/-- The row of a slice: its cells. -/
def RowOk (w : World) (t : TypeId) (e : Nat) (v : Value) (n : Nat) (xs : List Value) : Prop :=
  xs.length = n * e ∧ ((n = 0 ∧ ∃ a, v = .slice a 0 0) ∨ ∃ g cap cur, v = .slice (some ⟨g, 0, none⟩) n cap ∧ 0 < cap ∧ w.heap[g]? = some (.cells cur t (0, 0)) ∧ n ≤ cap ∧ cap ≤ maxLen ∧ cur.size = cap * e ∧ cur.toList.take (n * e) = xs)
/-- The block of a slice that has room. -/
def rowB : Value → Option Nat
  | .slice (some a) _ (_ + 1) => some a.block
  | _ => none
/-- The trees that are object k's own. -/
def OwnC (w : World) (ω : Lab) (k : Nat) (g : Option Nat) (cs : List IV) (xs : List Value) : Prop :=
  cs.length = xs.length ∧ ∃ Ss : Nat → Nat → Prop, (∀ j x v, cs[j]? = some x → xs[j]? = some v → RO w x v (Ss j)) ∧
    (∀ i j b, i < cs.length → j < cs.length → i ≠ j → Ss i b → ¬ Ss j b) ∧ ∀ j b, j < cs.length → Ss j b → ω b = .ob k ∧ some b ≠ g
def CellsOk (w : World) (ω : Lab) (k : Nat) (g : Option Nat) (own : Bool) (cs : List IV) (xs : List Value) : Prop :=
  if own then OwnC w ω k g cs xs else All2 (RI w ω) cs xs

mutual
def Cell.has (k : Nat) : Cell → Bool
  | .rf j _ => j == k
  | .rv j _ _ => j == k
  | .os j _ => j == k
  | .ov j _ _ _ => j == k
  | .ns j _ => j == k
  | .mp j => j == k
  | .fn _ caps => hasL k caps
  | _ => false
def hasL (k : Nat) : List Cell → Bool
  | [] => false
  | c :: r => c.has k || hasL k r
end
mutual
/-- Does it tell what stands in a cell of row k? -/
def Cell.hasN (k : Nat) : Cell → Bool
  | .ns j _ => j == k
  | .fn _ caps => hasNL k caps
  | _ => false
def hasNL (k : Nat) : List Cell → Bool
  | [] => false
  | c :: r => c.hasN k || hasNL k r
end
mutual
def Cell.anyN : Cell → Bool
  | .ns _ _ => true
  | .fn _ caps => anyNL caps
  | _ => false
def anyNL : List Cell → Bool
  | [] => false
  | c :: r => c.anyN || anyNL r
end

/-- How the world bears an object. -/
def ObOk (w : World) (ω : Lab) (κ : Nat → Value) (σ : Sto) (k : Nat) : Ob → Prop
  | .box t cs => ∃ b vs, κ k = .pointer (some ⟨b, 0, none⟩) ∧ ω b = .ob k ∧ w.heap[b]? = some (.cells vs t (0, 0)) ∧ All2 (RC w ω κ σ) cs vs.toList ∧ (∀ u ∈ vs.toList, u.oneCell' = true) ∧ anyNL cs = false
  | .vec t e n cs own => 0 < e ∧ ∃ xs, RowOk w t e (κ k) n xs ∧ (∀ b, rowB (κ k) = some b → ω b = .ob k) ∧ CellsOk w ω k (rowB (κ k)) own cs xs
  | .row n cs => ∃ S, RO w (.sl n cs) (κ k) S ∧ ∀ b, S b → ω b = .ob k
structure RS (w : World) (ω : Lab) (κ : Nat → Value) (σ : Sto) : Prop where
  ob : ∀ k o, get σ k = some o → ObOk w ω κ σ k o
  dom : ∀ b, ω b ≠ .no → b < w.heap.size

/-- What may have become of a world. -/
structure Turn (w : World) (ω : Lab) (w' : World) (ω' : Lab) : Prop where
  os : w'.os = w.os
  tape : w'.tape = w.tape
  output : w'.output = w.output
  size : w.heap.size ≤ w'.heap.size
  block : ∀ b, b < w.heap.size → (∀ k, ω b ≠ .ob k) → w'.heap[b]? = w.heap[b]?
  im : ∀ b, ω b = .im → ω' b = .im
  no : ∀ b, b < w.heap.size → ω b = .no → ω' b = .no
theorem Turn.refl (w : World) (ω : Lab) : Turn w ω w ω := ⟨rfl, rfl, rfl, Nat.le_refl _, fun _ _ _ => rfl, fun _ h => h, fun _ _ h => h⟩
theorem Turn.trans {w w' w'' : World} {ω ω' ω'' : Lab} (h : Turn w ω w' ω') (h' : Turn w' ω' w'' ω'') : Turn w ω w'' ω'' := by
  refine ⟨h'.os.trans h.os, h'.tape.trans h.tape, h'.output.trans h.output, Nat.le_trans h.size h'.size, fun b hb hk => ?_, fun b hb => h'.im b (h.im b hb), fun b hb hn => h'.no b (Nat.lt_of_lt_of_le hb h.size) (h.no b hb hn)⟩
  rw [h'.block b (Nat.lt_of_lt_of_le hb h.size) fun k hk' => ?_, h.block b hb hk]
  cases hw : ω b with
  | no => rw [h.no b hb hw] at hk'; cases hk'
  | im => rw [h.im b hw] at hk'; cases hk'
  | ob k => exact hk k hw

/-- Does a value stay where it is? -/
def stay : Value → Bool
  | .slice _ _ _ => false
  | _ => true
/-- What is known of key k goes over. -/
def KeyOk (κ : Nat → Value) (σ : Sto) (κ' : Nat → Value) (σ' : Sto) (k : Nat) : Prop :=
  (stay (κ k) = true → κ' k = κ k) ∧
  ∀ o' m', get σ' k = some o' → o'.len? = some m' → ∃ o m, get σ k = some o ∧ o.len? = some m ∧ m ≤ m' ∧ (m = m' → κ' k = κ k)
theorem KeyOk.refl (κ : Nat → Value) (σ : Sto) (k : Nat) : KeyOk κ σ κ σ k := ⟨fun _ => rfl, fun o m h h' => ⟨o, m, h, h', Nat.le_refl _, fun _ => rfl⟩⟩
theorem KeyOk.trans {κ κ' κ'' : Nat → Value} {σ σ' σ'' : Sto} {k : Nat} (h : KeyOk κ σ κ' σ' k) (h' : KeyOk κ' σ' κ'' σ'' k) : KeyOk κ σ κ'' σ'' k := by
  refine ⟨fun hs => ?_, fun o m ho hm => ?_⟩
  · have e := h.1 hs
    rw [h'.1 (by rw [e]; exact hs), e]
  · obtain ⟨o1, m1, h1, h2, h3, h4⟩ := h'.2 o m ho hm
    obtain ⟨o2, m2, g1, g2, g3, g4⟩ := h.2 o1 m1 h1 h2
    exact ⟨o2, m2, g1, g2, by omega, fun e => by rw [h4 (by omega), g4 (by omega)]⟩
/-- The row k has not been written. -/
def NestOk (w : World) (κ : Nat → Value) (σ : Sto) (w' : World) (κ' : Nat → Value) (σ' : Sto) (k : Nat) : Prop :=
  ∀ o' m', get σ' k = some o' → o'.len? = some m' → (∃ o m, get σ k = some o ∧ o.len? = some m) ∧ κ' k = κ k ∧ ∀ b n c, κ k = .slice (some ⟨b, 0, none⟩) n c → 0 < c → w'.heap[b]? = w.heap[b]?

theorem hasL_mem {k : Nat} {l : List Cell} {j : Nat} {x : Cell} (h : l[j]? = some x) (hx : x.has k = true) : hasL k l = true := by
  induction l generalizing j with
  | nil => simp at h
  | cons c r ih =>
    cases j with
    | zero => simp at h; subst h; simp [hasL, hx]
    | succ j => simp at h; simp [hasL, ih h]
theorem hasNL_mem {k : Nat} {l : List Cell} {j : Nat} {x : Cell} (h : l[j]? = some x) (hx : x.hasN k = true) : hasNL k l = true := by
  induction l generalizing j with
  | nil => simp at h
  | cons c r ih =>
    cases j with
    | zero => simp at h; subst h; simp [hasNL, hx]
    | succ j => simp at h; simp [hasNL, ih h]
theorem hasL_of_mem {k : Nat} {l : List Cell} {x : Cell} (h : x ∈ l) (hx : x.has k = true) : hasL k l = true := by
  obtain ⟨j, hj⟩ := List.getElem?_of_mem h
  exact hasL_mem hj hx
theorem hasNL_of_mem {k : Nat} {l : List Cell} {x : Cell} (h : x ∈ l) (hx : x.hasN k = true) : hasNL k l = true := by
  obtain ⟨j, hj⟩ := List.getElem?_of_mem h
  exact hasNL_mem hj hx
theorem anyN_has (k : Nat) (x : Cell) : x.anyN = false → x.hasN k = false := by
  refine Cell.rec (motive_1 := fun x => x.anyN = false → x.hasN k = false) (motive_2 := fun l => anyNL l = false → hasNL k l = false) ?_ ?_ ?_ ?_ ?_ ?_ ?_ ?_ ?_ ?_ ?_ ?_ ?_ x
  all_goals first | (intros; rfl) | skip
  · intro k j h; cases h
  · intro f caps ih h; exact ih h
  · intro c r h1 h2 h
    simp only [anyNL, Bool.or_eq_false_iff] at h
    simp [hasNL, h1 h.1, h2 h.2]
theorem anyNL_mem {l : List Cell} (h : anyNL l = false) : ∀ c ∈ l, c.anyN = false := by
  induction l with
  | nil => simp
  | cons c r ih =>
    simp only [anyNL, Bool.or_eq_false_iff] at h
    intro d hd
    rcases List.mem_cons.1 hd with rfl | hd
    · exact h.1
    · exact ih h.2 d hd

/-- How what is known may go over. -/
structure Over (w : World) (ω : Lab) (κ : Nat → Value) (σ : Sto) (w' : World) (ω' : Lab) (κ' : Nat → Value) (σ' : Sto) (hk hn : Nat → Prop) : Prop where
  im : ∀ b, ω b = .im → ω' b = .im ∧ w'.heap[b]? = w.heap[b]?
  key : ∀ k, hk k → KeyOk κ σ κ' σ' k
  nest : ∀ k, hn k → NestOk w κ σ w' κ' σ' k

theorem RC.step {w w' : World} {ω ω' : Lab} {κ κ' : Nat → Value} {σ σ' : Sto} {x : Cell} {v : Value}
    (h : RC w ω κ σ x v) : Over w ω κ σ w' ω' κ' σ' (fun k => x.has k = true) (fun k => x.hasN k = true) → RC w' ω' κ' σ' x v := by
  induction h with
  | im x v h => intro ho; exact .im x v (h.kept ho.im)
  | nl => intro ho; exact .nl
  | ik c n cs a h => intro ho; exact .ik c n cs a (h.kept ho.im)
  | rf k off b h =>
    intro ho
    have := (ho.key k (by simp [Cell.has])).1 (by rw [h]; rfl)
    exact .rf k off b (this.trans h)
  | rv k len off a h =>
    intro ho
    refine .rv k len off a fun o' m' hg hm => ?_
    obtain ⟨o, m, h1, h2, h3, h4⟩ := (ho.key k (by simp [Cell.has])).2 o' m' hg hm
    obtain ⟨h5, h6⟩ := h o m h1 h2
    refine ⟨by omega, fun hl => ?_⟩
    rw [h4 (by omega)]
    exact h6 (by omega)
  | os k n a c hc hz h =>
    intro ho
    refine .os k n a c hc hz fun o' m' hg hm => ?_
    obtain ⟨o, m, h1, h2, h3, h4⟩ := (ho.key k (by simp [Cell.has])).2 o' m' hg hm
    obtain ⟨h5, h6⟩ := h o m h1 h2
    refine ⟨by omega, fun hl => ?_⟩
    rw [h4 (by omega)]
    exact h6 (by omega)
  | ov k n off l a c hc hz h =>
    intro ho
    refine .ov k n off l a c hc hz fun o' m' hg hm => ?_
    obtain ⟨o, m, h1, h2, h3, h4⟩ := (ho.key k (by simp [Cell.has])).2 o' m' hg hm
    obtain ⟨h5, h6⟩ := h o m h1 h2
    refine ⟨by omega, fun hl => ?_⟩
    rw [h4 (by omega)]
    exact h6 (by omega)
  | ns k j v h =>
    intro ho
    refine .ns k j v fun o' m' hg hm => ?_
    obtain ⟨⟨o, m, h1, h2⟩, h3, h4⟩ := ho.nest k (by simp [Cell.hasN]) o' m' hg hm
    obtain ⟨b, n, c, h5, h6, h7⟩ := h o m h1 h2
    refine ⟨b, n, c, h3.trans h5, h6, ?_⟩
    rw [World.cell?_of_block (w := w) (h4 b n c h5 h6)]; exact h7
  | mp k r h =>
    intro ho
    have := (ho.key k (by simp [Cell.has])).1 (by rw [h]; rfl)
    exact .mp k r (this.trans h)
  | fn f caps vs hl h ih =>
    intro ho
    exact .fn f caps vs hl fun j x hx => ih j x hx ⟨ho.im, fun k hkk => ho.key k (by simp [Cell.has, hasL_mem hx hkk]), fun k hkk => ho.nest k (by simp [Cell.hasN, hasNL_mem hx hkk])⟩
  | bad v => intro _; exact .bad v

theorem Over.sub {w w' : World} {ω ω' : Lab} {κ κ' : Nat → Value} {σ σ' : Sto} {hk hn hk' hn' : Nat → Prop} (h : Over w ω κ σ w' ω' κ' σ' hk hn) (h1 : ∀ k, hk' k → hk k) (h2 : ∀ k, hn' k → hn k) : Over w ω κ σ w' ω' κ' σ' hk' hn' :=
  ⟨h.im, fun k hk => h.key k (h1 k hk), fun k hk => h.nest k (h2 k hk)⟩

theorem All2.imp {α β : Type} {R R' : α → β → Prop} {xs : List α} {ys : List β} (h : All2 R xs ys) (hi : ∀ x y, x ∈ xs → R x y → R' x y) : All2 R' xs ys :=
  ⟨h.1, fun j x y hx hy => hi x y (List.mem_of_getElem? hx) (h.2 j x y hx hy)⟩
theorem All2.set {α β : Type} {R : α → β → Prop} {xs : List α} {ys : List β} (h : All2 R xs ys) (i : Nat) {x : α} {y : β} (hxy : R x y) : All2 R (xs.set i x) (ys.set i y) := by
  refine ⟨by simp [h.1], fun j u v hu hv => ?_⟩
  rw [List.getElem?_set] at hu hv
  by_cases hij : i = j
  · subst hij
    by_cases hl : i < xs.length
    · have hl' : i < ys.length := h.1 ▸ hl
      simp [hl] at hu
      simp [hl'] at hv
      subst hu; subst hv; exact hxy
    · simp [hl] at hu
  · simp [hij] at hu hv
    exact h.2 j u v hu hv
theorem All2.get {α β : Type} {R : α → β → Prop} {xs : List α} {ys : List β} (h : All2 R xs ys) {j : Nat} {x : α} (hx : xs[j]? = some x) : ∃ y, ys[j]? = some y ∧ R x y := by
  have hl : j < ys.length := by rw [← h.1]; exact (List.getElem?_eq_some_iff.1 hx).1
  exact ⟨ys[j], by simp [hl], h.2 j x _ hx (by simp [hl])⟩
theorem All2.append {α β : Type} {R : α → β → Prop} {xs xs' : List α} {ys ys' : List β} (h : All2 R xs ys) (h' : All2 R xs' ys') : All2 R (xs ++ xs') (ys ++ ys') := by
  refine ⟨by simp [h.1, h'.1], fun j x y hx hy => ?_⟩
  by_cases hj : j < xs.length
  · rw [List.getElem?_append_left hj] at hx
    rw [List.getElem?_append_left (by rw [← h.1]; exact hj)] at hy
    exact h.2 j x y hx hy
  · rw [List.getElem?_append_right (by omega)] at hx
    rw [List.getElem?_append_right (by rw [← h.1]; omega)] at hy
    rw [h.1] at hx
    exact h'.2 _ x y hx hy

def TV.has (k : Nat) : TV → Bool
  | .c x => x.has k
  | .ag cs => hasL k cs
  | .tp ts => ts.any fun
    | .c x => x.has k
    | .ag cs => hasL k cs
    | .tp _ => false
def TV.hasN (k : Nat) : TV → Bool
  | .c x => x.hasN k
  | .ag cs => hasNL k cs
  | .tp ts => ts.any fun
    | .c x => x.hasN k
    | .ag cs => hasNL k cs
    | .tp _ => false
theorem RT1.step {w w' : World} {ω ω' : Lab} {κ κ' : Nat → Value} {σ σ' : Sto} {x : TV} {v : Value}
    (h : RT1 w ω κ σ x v) (ho : Over w ω κ σ w' ω' κ' σ' (fun k => x.has k = true) (fun k => x.hasN k = true)) : RT1 w' ω' κ' σ' x v := by
  cases x with
  | c x => exact RC.step h ho
  | ag cs =>
    obtain ⟨vs, rfl, h1, h2⟩ := h
    exact ⟨vs, rfl, h1.imp fun x y hx hxy => hxy.step (ho.sub (fun k hkk => hasL_of_mem hx hkk) fun k hkk => hasNL_of_mem hx hkk), h2⟩
  | tp ts => exact h.elim
theorem RT.step {w w' : World} {ω ω' : Lab} {κ κ' : Nat → Value} {σ σ' : Sto} {x : TV} {v : Value}
    (h : RT w ω κ σ x v) (ho : Over w ω κ σ w' ω' κ' σ' (fun k => x.has k = true) (fun k => x.hasN k = true)) : RT w' ω' κ' σ' x v := by
  cases x with
  | c x => exact RC.step h ho
  | ag cs => exact RT1.step (x := .ag cs) h ho
  | tp ts =>
    obtain ⟨vs, rfl, h1⟩ := h
    refine ⟨vs, rfl, h1.imp fun x y hx hxy => RT1.step hxy (ho.sub (fun k hkk => ?_) fun k hkk => ?_)⟩
    · simp only [TV.has, List.any_eq_true]
      refine ⟨x, hx, ?_⟩
      cases x <;> first | exact hkk | exact hxy.elim
    · simp only [TV.hasN, List.any_eq_true]
      refine ⟨x, hx, ?_⟩
      cases x <;> first | exact hkk | exact hxy.elim

/-- A frame's variables and objects. -/
structure St where
  N : Nat
  E : List (Nat × TV)
  σ : Sto
def EnvOk (w : World) (ω : Lab) (κ : Nat → Value) (σ : Sto) (E : List (Nat × TV)) (tmps : Array Value) : Prop :=
  ∀ t x, get E t = some x → t < tmps.size ∧ RT w ω κ σ x (tmps.getD t undef)
/-- How the call began. -/
structure Base where
  w : World
  ω : Lab
  κ : Nat → Value
  σ : Sto
structure Rel (β : Base) (ω : Lab) (κ : Nat → Value) (s : St) (a : Act) (w : World) : Prop where
  turn : Turn β.w β.ω w ω
  keys : ∀ k, (get β.σ k).isSome = true → KeyOk β.κ β.σ κ s.σ k
  odd : ∀ k, (get β.σ k).isSome = true → k % 2 = 1
  defers : a.defers = []
  size : a.tmps.size = s.N
  env : EnvOk w ω κ s.σ s.E a.tmps
  rs : RS w ω κ s.σ
def RelE (β : Base) (s : St) (a : Act) (w : World) : Prop := ∃ ω κ, Rel β ω κ s a w

theorem OwnC.kept {w w' : World} {ω ω' : Lab} {k : Nat} {g : Option Nat} {cs : List IV} {xs : List Value} (h : OwnC w ω k g cs xs) (ho : ∀ b, ω b = .ob k → ω' b = .ob k ∧ w'.heap[b]? = w.heap[b]?) : OwnC w' ω' k g cs xs := by
  obtain ⟨h0, Ss, h1, h2, h3⟩ := h
  exact ⟨h0, Ss, fun j x v hx hv => (h1 j x v hx hv).kept fun b hb => (ho b (h3 j b (List.getElem?_eq_some_iff.1 hx).1 hb).1).2, h2, fun j b hj hb => ⟨(ho b (h3 j b hj hb).1).1, (h3 j b hj hb).2⟩⟩
theorem rowB_some {a : Addr} {n c : Nat} (h : 0 < c) : rowB (.slice (some a) n c) = some a.block := by
  cases c with
  | zero => omega
  | succ c => rfl
theorem RowOk.kept {w w' : World} {t : TypeId} {e n : Nat} {v : Value} {xs : List Value} (h : RowOk w t e v n xs) (hb : ∀ b, rowB v = some b → w'.heap[b]? = w.heap[b]?) : RowOk w' t e v n xs := by
  refine ⟨h.1, ?_⟩
  rcases h.2 with h | ⟨g, cap, cur, rfl, hc, hg, rest⟩
  · exact .inl h
  · exact .inr ⟨g, cap, cur, rfl, hc, by rw [hb g (rowB_some hc)]; exact hg, rest⟩
theorem RowOk.lt {w : World} {t : TypeId} {e n : Nat} {v : Value} {xs : List Value} (h : RowOk w t e v n xs) {b : Nat} (hb : rowB v = some b) : b < w.heap.size := by
  rcases h.2 with ⟨_, a, rfl⟩ | ⟨g, cap, cur, rfl, hc, hg, rest⟩
  · cases a <;> cases hb
  · rw [rowB_some hc] at hb
    obtain rfl := Option.some.inj hb
    exact (Array.getElem?_eq_some_iff.1 hg).1
theorem RowOk.slice {w : World} {t : TypeId} {e n : Nat} {v : Value} {xs : List Value} (h : RowOk w t e v n xs) : ∃ a c, v = .slice a n c ∧ n ≤ c ∧ c ≤ maxLen ∧ (a = none → c = 0) := by
  rcases h.2 with ⟨rfl, a, rfl⟩ | ⟨g, cap, cur, rfl, hc, hg, h1, h2, rest⟩
  · exact ⟨a, 0, rfl, Nat.le_refl _, by simp [maxLen], fun _ => rfl⟩
  · exact ⟨_, _, rfl, h1, h2, fun h => by cases h⟩
/-- The cells of a row, where it lies. -/
theorem RowOk.cells {w : World} {t : TypeId} {e n : Nat} {v : Value} {xs : List Value} (h : RowOk w t e v n xs) : ∀ (a : Addr) m c, v = .slice (some a) m c → ∀ j u, xs[j]? = some u → w.cell? (a.add j) = some u := by
  intro a m c hv j u hu
  have hj := (List.getElem?_eq_some_iff.1 hu).1
  rcases h.2 with ⟨rfl, _⟩ | ⟨g, cap, cur, rfl, hc, hg, h1, h2, h3, h4⟩
  · have := h.1; simp at this; subst this; simp at hj
  · injection hv with q1 q2 q3
    obtain rfl := Option.some.inj q1
    rw [addr_add_lit, cell_row hg]
    rw [← h4, List.getElem?_take_of_lt (by rw [← h.1]; exact hj)] at hu
    simpa using hu

theorem ObOk.step {w w' : World} {ω ω' : Lab} {κ κ' : Nat → Value} {σ σ' : Sto} {k : Nat} {o : Ob} (h : ObOk w ω κ σ k o) (hκ : κ' k = κ k) (ho : ∀ b, ω b = .ob k → ω' b = .ob k ∧ w'.heap[b]? = w.heap[b]?)
    (him : ∀ b, ω b = .im → ω' b = .im ∧ w'.heap[b]? = w.heap[b]?) (hkey : ∀ t cs, o = .box t cs → ∀ i, hasL i cs = true → KeyOk κ σ κ' σ' i) : ObOk w' ω' κ' σ' k o := by
  cases o with
  | box t cs =>
    obtain ⟨b, vs, h1, h2, h3, h4, h5, h6⟩ := h
    refine ⟨b, vs, hκ.trans h1, (ho b h2).1, by rw [(ho b h2).2]; exact h3, h4.imp fun x y hx hxy => hxy.step ⟨him, fun i hi => hkey t cs rfl i (hasL_of_mem hx hi), fun i hi => ?_⟩, h5, h6⟩
    rw [anyN_has i x (anyNL_mem h6 x hx)] at hi; cases hi
  | vec t e n cs own =>
    obtain ⟨h0, xs, h1, h2, h3⟩ := h
    refine ⟨h0, xs, ?_, fun b hb => ?_, ?_⟩
    · rw [hκ]; exact h1.kept fun b hb => (ho b (h2 b hb)).2
    · rw [hκ] at hb; exact (ho b (h2 b hb)).1
    · rw [hκ]
      unfold CellsOk at h3 ⊢
      split
      · rename_i hown; rw [if_pos hown] at h3; exact h3.kept ho
      · rename_i hown; rw [if_neg hown] at h3; exact h3.imp fun x y _ hxy => hxy.kept him
  | row n cs =>
    obtain ⟨S, h1, h2⟩ := h
    exact ⟨S, by rw [hκ]; exact h1.kept fun b hb => (ho b (h2 b hb)).2, fun b hb => (ho b (h2 b hb)).1⟩
end Go.VC
