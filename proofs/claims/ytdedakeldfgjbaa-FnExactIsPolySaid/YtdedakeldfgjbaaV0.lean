/- Abstract values of a Go function's variables, and how a world of the machine bears them: no statement of a program. -/
import Derived.Below
import Derived.Tactics
import Derived.Laws.AppendOwn
import Derived.Laws.OwnMore
import Derived.Laws.MakeOwn
import Derived.Orders
set_option linter.unusedSimpArgs false
set_option linter.unusedVariables false
namespace Go.VC
open Go Go.RowKit

/-- A value that leads to no memory. -/
def scalarB : Value → Bool
  | .bool _ | .int _ _ | .float _ _ | .string _ | .pointer none | .map none | .nilFunc | .nilIface => true
  | _ => false

/-- What is never written any more, cell by cell: a scalar; a slice (its length, its cells); a pointer (the cells from there on); a function with what it captured. -/
inductive IV where
  | sc (v : Value)
  | sl (n : Nat) (cs : List IV)
  | pt (cs : List IV)
  | fn (f : FuncId) (caps : List IV)
  deriving Inhabited

/-- The value 'v' reads as the tree 'x' in the world 'w', by blocks of 'D'. -/
inductive RI (w : World) (D : Nat → Prop) : IV → Value → Prop
  | sc (v : Value) : scalarB v = true → RI w D (.sc v) v
  | slnil : RI w D (.sl 0 []) (.slice none 0 0)
  | sl (n c : Nat) (cs : List IV) (a : Addr) (vs : Nat → Value) : (cs ≠ [] → D a.block) → n ≤ c → c ≤ maxLen →
      (∀ j, j < cs.length → w.cell? (a.add j) = some (vs j)) → (∀ j x, cs[j]? = some x → RI w D x (vs j)) → RI w D (.sl n cs) (.slice (some a) n c)
  | pt (cs : List IV) (a : Addr) (vs : Nat → Value) : (cs ≠ [] → D a.block) →
      (∀ j, j < cs.length → w.cell? (a.add j) = some (vs j)) → (∀ j x, cs[j]? = some x → RI w D x (vs j)) → RI w D (.pt cs) (.pointer (some a))
  | fn (f : FuncId) (caps : List IV) (vs : List Value) : vs.length = caps.length → (∀ j x, caps[j]? = some x → RI w D x (vs.getD j undef)) → RI w D (.fn f caps) (.func (.func f) #[] vs.toArray)

theorem RI.one {w : World} {D : Nat → Prop} {x : IV} {v : Value} (h : RI w D x v) : v.oneCell' = true := by
  cases h with
  | sc v hs => cases v <;> simp_all [scalarB, Value.oneCell']
  | _ => rfl

/-- What is read stays read where its blocks stay. -/
theorem RI.kept {w w' : World} {D D' : Nat → Prop} {x : IV} {v : Value} (hD : ∀ b, D b → D' b) (hw : ∀ b, D b → w'.heap[b]? = w.heap[b]?) (h : RI w D x v) : RI w' D' x v := by
  induction h with
  | sc v hs => exact .sc v hs
  | slnil => exact .slnil
  | sl n c cs a vs hd hn hm hcell _ ih => exact .sl n c cs a vs (fun h => hD _ (hd h)) hn hm (fun j hj => by rw [World.cell?_of_block (w := w)]; exact hcell j hj; rw [show (a.add j).block = a.block from by unfold Addr.add; split <;> rfl]; exact hw _ (hd (by rintro rfl; simp at hj))) ih
  | pt cs a vs hd hcell _ ih => exact .pt cs a vs (fun h => hD _ (hd h)) (fun j hj => by rw [World.cell?_of_block (w := w)]; exact hcell j hj; rw [show (a.add j).block = a.block from by unfold Addr.add; split <;> rfl]; exact hw _ (hd (by rintro rfl; simp at hj))) ih
  | fn f caps vs hl _ ih => exact .fn f caps vs hl ih

/-- A cell of a variable: a tree; the nil slice; a slice of a known capacity; a pointer to a cell of a box of the call's own; a pointer to a cell of its own row; the whole of an own row, n elements long; a function; unknown. -/
inductive Cell where
  | im (x : IV)
  | nl
  | ik (c n : Nat) (cs : List IV)
  | rf (k off : Nat)
  | rv (k len off : Nat)
  | os (k n : Nat)
  | fn (f : FuncId) (caps : List Cell)
  | bad
  deriving Inhabited

/-- An object of the call's own: a variable in memory, or a row that may grow. -/
inductive Ob where
  | box (t : TypeId) (cs : List Cell)
  | vec (t : TypeId) (esz n : Nat) (cs : List IV)
  deriving Inhabited

/-- Lists of pairs: the first one with a key counts. -/
def get {α : Type} : List (Nat × α) → Nat → Option α
  | [], _ => none
  | (k, o) :: r, i => if i = k then some o else get r i
def del {α : Type} : List (Nat × α) → Nat → List (Nat × α)
  | [], _ => []
  | (k, o) :: r, i => if i = k then del r i else (k, o) :: del r i
/-- It is turned at its place. -/
def upd {α : Type} : List (Nat × α) → Nat → α → List (Nat × α)
  | [], _, _ => []
  | (k, p) :: r, i, o => if i = k then (k, o) :: r else (k, p) :: upd r i o
abbrev Sto := List (Nat × Ob)

theorem get_cons {α : Type} (k : Nat) (o : α) (r : List (Nat × α)) (i : Nat) : get ((k, o) :: r) i = if i = k then some o else get r i := rfl
theorem get_del {α : Type} (σ : List (Nat × α)) (i j : Nat) : get (del σ i) j = if j = i then none else get σ j := by
  induction σ with
  | nil => simp [get, del]
  | cons p r ih =>
    obtain ⟨k, o⟩ := p
    by_cases h : i = k
    · subst h
      simp only [del, if_true, ih, get]
      by_cases hj : j = i <;> simp [hj]
    · simp only [del, h, if_false, get, ih]
      by_cases hj : j = k
      · subst hj; simp [Ne.symm h]
      · simp [hj]
theorem get_upd {α : Type} (σ : List (Nat × α)) (i j : Nat) (o : α) (h : (get σ i).isSome = true) : get (upd σ i o) j = if j = i then some o else get σ j := by
  induction σ with
  | nil => simp [get] at h
  | cons p r ih =>
    obtain ⟨k, q⟩ := p
    by_cases hk : i = k
    · subst hk
      simp only [upd, if_true, get]
      by_cases hj : j = i <;> simp [hj]
    · simp only [get, hk, if_false] at h
      simp only [upd, hk, if_false, get, ih h]
      by_cases hj : j = k
      · subst hj; simp [Ne.symm hk]
      · simp [hj]

/-- The block in which an object lies. -/
def blk : Value → Option Nat
  | .pointer (some a) => some a.block
  | .slice (some a) _ _ => some a.block
  | .map (some r) => some r
  | _ => none

theorem blk_slice (a : Option Addr) (l c : Nat) : blk (.slice a l c) = (Value.slice a l c).ownBlock := by cases a <;> rfl
theorem blk_of_own {v : Value} {b : Nat} (h : v.ownBlock = some b) : blk v = some b := by
  cases v <;> first | (simp [Value.ownBlock] at h; done) | (rw [blk_slice]; exact h)

/-- How the world bears a cell's value: 'κ' tells each own object's value (a box: its address; a row: its slice). -/
inductive RC (w : World) (D : Nat → Prop) (κ : Nat → Value) (σ : Sto) : Cell → Value → Prop
  | im (x : IV) (v : Value) : RI w D x v → RC w D κ σ (.im x) v
  | nl : RC w D κ σ .nl (.slice none 0 0)
  | ik (c n : Nat) (cs : List IV) (a : Option Addr) : RI w D (.sl n cs) (.slice a n c) → RC w D κ σ (.ik c n cs) (.slice a n c)
  | rf (k off b : Nat) : κ k = .pointer (some ⟨b, 0, none⟩) → RC w D κ σ (.rf k off) (.pointer (some ⟨b, off, none⟩))
  | rv (k len off : Nat) (a : Addr) : (∀ t e m cs, get σ k = some (.vec t e m cs) → len ≤ m ∧ (m = len → ∃ b n c, κ k = .slice (some ⟨b, 0, none⟩) n c ∧ a = ⟨b, off, none⟩)) → RC w D κ σ (.rv k len off) (.pointer (some a))
  | os (k n : Nat) (a : Option Addr) (c : Nat) : (∀ t e m cs, get σ k = some (.vec t e m cs) → n ≤ m ∧ (m = n → κ k = .slice a n c)) → RC w D κ σ (.os k n) (.slice a n c)
  | fn (f : FuncId) (caps : List Cell) (vs : List Value) : vs.length = caps.length → (∀ j x, caps[j]? = some x → RC w D κ σ x (vs.getD j undef)) → RC w D κ σ (.fn f caps) (.func (.func f) #[] vs.toArray)
  | bad (v : Value) : RC w D κ σ .bad v

def All2 {α β : Type} (R : α → β → Prop) (xs : List α) (ys : List β) : Prop := xs.length = ys.length ∧ ∀ (j : Nat) (x : α) (y : β), xs[j]? = some x → ys[j]? = some y → R x y

/-- A variable's value: one cell; several; the results of a call. -/
inductive TV where
  | c (x : Cell)
  | ag (cs : List Cell)
  | tp (ts : List TV)
  deriving Inhabited

def RT1 (w : World) (D : Nat → Prop) (κ : Nat → Value) (σ : Sto) : TV → Value → Prop
  | .c x, v => RC w D κ σ x v
  | .ag cs, v => ∃ vs : List Value, v = .agg vs.toArray ∧ All2 (RC w D κ σ) cs vs ∧ ∀ u ∈ vs, u.oneCell' = true
  | .tp _, _ => False
def RT (w : World) (D : Nat → Prop) (κ : Nat → Value) (σ : Sto) : TV → Value → Prop
  | .tp ts, v => ∃ vs : List Value, v = .tuple vs.toArray ∧ All2 (RT1 w D κ σ) ts vs
  | x, v => RT1 w D κ σ x v

/-- How the world bears the objects of the call's own. -/
structure RS (w : World) (B : Nat) (D : Nat → Prop) (κ : Nat → Value) (σ : Sto) : Prop where
  box : ∀ k t cs, get σ k = some (.box t cs) → ∃ b vs, κ k = .pointer (some ⟨b, 0, none⟩) ∧ B ≤ b ∧ w.heap[b]? = some (.cells vs t (0, 0)) ∧
    All2 (RC w D κ σ) cs vs.toList ∧ ∀ u ∈ vs.toList, u.oneCell' = true
  vec : ∀ k t e n cs, get σ k = some (.vec t e n cs) → 0 < e ∧ ∃ xs, w.ownsRow B t e (κ k) n xs ∧ All2 (RI w D) cs xs
  inj : ∀ k k' b, (get σ k).isSome = true → (get σ k').isSome = true → blk (κ k) = some b → blk (κ k') = some b → k = k'
  apart : ∀ k b, (get σ k).isSome = true → blk (κ k) = some b → ¬ D b
  dom : ∀ b, D b → b < w.heap.size

/-- A frame's variables and objects. -/
structure St where
  N : Nat
  E : List (Nat × TV)
  σ : Sto
def EnvOk (w : World) (D : Nat → Prop) (κ : Nat → Value) (σ : Sto) (E : List (Nat × TV)) (tmps : Array Value) : Prop :=
  ∀ t x, get E t = some x → t < tmps.size ∧ RT w D κ σ x (tmps.getD t undef)

structure Rel (B : Nat) (D0 : Nat → Prop) (w0 : World) (D : Nat → Prop) (κ : Nat → Value) (s : St) (a : Act) (w : World) : Prop where
  below : Below B w0 w
  low : B = w0.heap.size
  grow : ∀ b, D0 b → D b
  new : ∀ b, D b → D0 b ∨ B ≤ b
  defers : a.defers = []
  size : a.tmps.size = s.N
  env : EnvOk w D κ s.σ s.E a.tmps
  rs : RS w B D κ s.σ
def RelE (B : Nat) (D0 : Nat → Prop) (w0 : World) (s : St) (a : Act) (w : World) : Prop := ∃ D κ, Rel B D0 w0 D κ s a w

/-! ### Steps -/
mutual
def Cell.has (k : Nat) : Cell → Bool
  | .rf j _ => j == k
  | .rv j _ _ => j == k
  | .os j _ => j == k
  | .fn _ caps => hasL k caps
  | _ => false
def hasL (k : Nat) : List Cell → Bool
  | [] => false
  | c :: r => c.has k || hasL k r
end
theorem hasL_mem {k : Nat} {l : List Cell} {j : Nat} {x : Cell} (h : l[j]? = some x) (hx : x.has k = true) : hasL k l = true := by
  induction l generalizing j with
  | nil => simp at h
  | cons c r ih =>
    cases j with
    | zero => simp at h; subst h; simp [hasL, hx]
    | succ j => simp at h; simp [hasL, ih h]

/-- What is known of key k goes over from (κ, σ) to (κ', σ'). -/
def KeyOk (κ : Nat → Value) (σ : Sto) (κ' : Nat → Value) (σ' : Sto) (k : Nat) : Prop :=
  (∀ b, κ k = .pointer (some ⟨b, 0, none⟩) → κ' k = κ k) ∧
  ∀ t e m' cs', get σ' k = some (.vec t e m' cs') → ∃ m cs, get σ k = some (.vec t e m cs) ∧ m ≤ m' ∧ (m = m' → κ' k = κ k)
theorem KeyOk.refl (κ : Nat → Value) (σ : Sto) (k : Nat) : KeyOk κ σ κ σ k := ⟨fun _ _ => rfl, fun _ _ m cs h => ⟨m, cs, h, Nat.le_refl _, fun _ => rfl⟩⟩

theorem RC.step {w w' : World} {D D' : Nat → Prop} {κ κ' : Nat → Value} {σ σ' : Sto} {x : Cell} {v : Value} (hD : ∀ b, D b → D' b) (hw : ∀ b, D b → w'.heap[b]? = w.heap[b]?)
    (h : RC w D κ σ x v) (hk : ∀ k, x.has k = true → KeyOk κ σ κ' σ' k) : RC w' D' κ' σ' x v := by
  induction h with
  | im x v h => exact .im x v (h.kept hD hw)
  | nl => exact .nl
  | ik c n cs a h => exact .ik c n cs a (h.kept hD hw)
  | rf k off b h =>
    have := (hk k (by simp [Cell.has])).1 b h
    exact .rf k off b (this.trans h)
  | rv k len off a h =>
    refine .rv k len off a fun t e m' cs' hg => ?_
    obtain ⟨m, cs, h1, h2, h3⟩ := (hk k (by simp [Cell.has])).2 t e m' cs' hg
    obtain ⟨h4, h5⟩ := h t e m cs h1
    refine ⟨by omega, fun hl => ?_⟩
    rw [h3 (by omega)]
    exact h5 (by omega)
  | os k n a c h =>
    refine .os k n a c fun t e m' cs' hg => ?_
    obtain ⟨m, cs, h1, h2, h3⟩ := (hk k (by simp [Cell.has])).2 t e m' cs' hg
    obtain ⟨h4, h5⟩ := h t e m cs h1
    refine ⟨by omega, fun hl => ?_⟩
    rw [h3 (by omega)]
    exact h5 (by omega)
  | fn f caps vs hl h ih => exact .fn f caps vs hl fun j x hx => ih j x hx fun k hkk => hk k (by simp [Cell.has, hasL_mem hx hkk])
  | bad v => exact .bad v

theorem All2.imp {α β : Type} {R R' : α → β → Prop} {xs : List α} {ys : List β} (h : All2 R xs ys) (hi : ∀ x y, x ∈ xs → R x y → R' x y) : All2 R' xs ys :=
  ⟨h.1, fun j x y hx hy => hi x y (List.mem_of_getElem? hx) (h.2 j x y hx hy)⟩
theorem All2.set {α β : Type} {R : α → β → Prop} {xs : List α} {ys : List β} (h : All2 R xs ys) (i : Nat) {x : α} {y : β} (hxy : R x y) : All2 R (xs.set i x) (ys.set i y) := by
  refine ⟨by simp [h.1], fun j u v hu hv => ?_⟩
  rw [List.getElem?_set] at hu hv
  by_cases hij : i = j
  · subst hij
    by_cases hl : i < xs.length
    · have hl' : i < ys.length := h.1 ▸ hl
      simp [hl] at hu
      simp [hl'] at hv
      subst hu; subst hv; exact hxy
    · simp [hl] at hu
  · simp [hij] at hu hv
    exact h.2 j u v hu hv
theorem All2.get {α β : Type} {R : α → β → Prop} {xs : List α} {ys : List β} (h : All2 R xs ys) {j : Nat} {x : α} (hx : xs[j]? = some x) : ∃ y, ys[j]? = some y ∧ R x y := by
  have hl : j < ys.length := by rw [← h.1]; exact (List.getElem?_eq_some_iff.1 hx).1
  exact ⟨ys[j], by simp [hl], h.2 j x _ hx (by simp [hl])⟩

def TV.has (k : Nat) : TV → Bool
  | .c x => x.has k
  | .ag cs => hasL k cs
  | .tp ts => ts.any fun
    | .c x => x.has k
    | .ag cs => hasL k cs
    | .tp _ => false
theorem hasL_of_mem {k : Nat} {l : List Cell} {x : Cell} (h : x ∈ l) (hx : x.has k = true) : hasL k l = true := by
  obtain ⟨j, hj⟩ := List.getElem?_of_mem h
  exact hasL_mem hj hx
theorem RT1.step {w w' : World} {D D' : Nat → Prop} {κ κ' : Nat → Value} {σ σ' : Sto} {x : TV} {v : Value} (hD : ∀ b, D b → D' b) (hw : ∀ b, D b → w'.heap[b]? = w.heap[b]?)
    (h : RT1 w D κ σ x v) (hk : ∀ k, x.has k = true → KeyOk κ σ κ' σ' k) : RT1 w' D' κ' σ' x v := by
  cases x with
  | c x => exact RC.step hD hw h hk
  | ag cs =>
    obtain ⟨vs, rfl, h1, h2⟩ := h
    exact ⟨vs, rfl, h1.imp fun x y hx hxy => RC.step hD hw hxy fun k hkk => hk k (hasL_of_mem hx hkk), h2⟩
  | tp ts => exact h.elim
theorem RT.step {w w' : World} {D D' : Nat → Prop} {κ κ' : Nat → Value} {σ σ' : Sto} {x : TV} {v : Value} (hD : ∀ b, D b → D' b) (hw : ∀ b, D b → w'.heap[b]? = w.heap[b]?)
    (h : RT w D κ σ x v) (hk : ∀ k, x.has k = true → KeyOk κ σ κ' σ' k) : RT w' D' κ' σ' x v := by
  cases x with
  | c x => exact RC.step hD hw h hk
  | ag cs => exact RT1.step (x := .ag cs) hD hw h hk
  | tp ts =>
    obtain ⟨vs, rfl, h1⟩ := h
    refine ⟨vs, rfl, h1.imp fun x y hx hxy => RT1.step hD hw hxy fun k hkk => hk k ?_⟩
    simp only [TV.has, List.any_eq_true]
    refine ⟨x, hx, ?_⟩
    cases x <;> first | exact hkk | exact hxy.elim

/-- The world turns: new blocks, and the block of object k. -/
theorem RS.turn {w w' : World} {B : Nat} {D : Nat → Prop} {κ κ' : Nat → Value} {σ σ' : Sto} {row : Option Nat} (k : Nat) (h : RS w B D κ σ) (hg : w.grownBy w' row)
    (hrow : ∀ b, row = some b → (get σ k).isSome = true ∧ blk (κ k) = some b) (hκ : ∀ j, j ≠ k → κ' j = κ j) (hσ : ∀ j, j ≠ k → get σ' j = get σ j)
    (hk : ∀ j t cs, j ≠ k → get σ j = some (.box t cs) → ∀ c ∈ cs, ∀ i, c.has i = true → KeyOk κ σ κ' σ' i)
    (hnew : ∀ b, (get σ' k).isSome = true → blk (κ' k) = some b → w.heap.size ≤ b ∨ ((get σ k).isSome = true ∧ blk (κ k) = some b))
    (hbox : ∀ t cs, get σ' k = some (.box t cs) → ∃ b vs, κ' k = .pointer (some ⟨b, 0, none⟩) ∧ B ≤ b ∧ w'.heap[b]? = some (.cells vs t (0, 0)) ∧ All2 (RC w' D κ' σ') cs vs.toList ∧ ∀ u ∈ vs.toList, u.oneCell' = true)
    (hvec : ∀ t e n cs, get σ' k = some (.vec t e n cs) → 0 < e ∧ ∃ xs, w'.ownsRow B t e (κ' k) n xs ∧ All2 (RI w' D) cs xs) : RS w' B D κ' σ' := by
  have hDw : ∀ b, D b → w'.heap[b]? = w.heap[b]? := fun b hb => hg.block b (h.dom b hb) fun e => by
    obtain ⟨h1, h2⟩ := hrow b e.symm
    exact h.apart k b h1 h2 hb
  have hne : ∀ j b, j ≠ k → (get σ j).isSome = true → blk (κ j) = some b → some b ≠ row := fun j b hj hs hb e => by
    obtain ⟨h1, h2⟩ := hrow b e.symm
    exact hj (h.inj j k b hs h1 hb h2)
  have hlt : ∀ j b, (get σ j).isSome = true → blk (κ j) = some b → b < w.heap.size := fun j b hs hb => by
    cases ho : get σ j with
    | none => simp [ho] at hs
    | some o =>
      cases o with
      | box t cs =>
        obtain ⟨b', vs, h1, _, h3, _⟩ := h.box j t cs ho
        rw [h1] at hb
        simp [blk] at hb
        subst hb
        exact (Array.getElem?_eq_some_iff.1 h3).1
      | vec t e n cs =>
        obtain ⟨_, xs, h1, _⟩ := h.vec j t e n cs ho
        refine (h1.lt b ?_).2
        cases hv : κ j <;> rw [hv] at hb <;> first | (simp [blk] at hb; done) | skip
        · have := h1.2; rw [hv] at this; rcases this with ⟨h, _⟩ | ⟨_, _, _, h, _⟩ <;> cases h
        · rw [blk_slice] at hb; exact hb
        · have := h1.2; rw [hv] at this; rcases this with ⟨h, _⟩ | ⟨_, _, _, h, _⟩ <;> cases h
  refine ⟨fun j t cs hj => ?_, fun j t e n cs hj => ?_, fun j j' b hj hj' hb hb' => ?_, fun j b hj hb hDb => ?_, fun b hb => Nat.lt_of_lt_of_le (h.dom b hb) hg.size⟩
  · by_cases hjk : j = k
    · subst hjk; exact hbox t cs hj
    · rw [hσ j hjk] at hj
      obtain ⟨b, vs, h1, h2, h3, h4, h5⟩ := h.box j t cs hj
      refine ⟨b, vs, (hκ j hjk).trans h1, h2, ?_, h4.imp fun x y hx hxy => RC.step (fun _ h => h) hDw hxy (hk j t cs hjk hj x hx), h5⟩
      rw [hg.block b (Array.getElem?_eq_some_iff.1 h3).1 (hne j b hjk (by simp [hj]) (by simp [h1, blk]))]
      exact h3
  · by_cases hjk : j = k
    · subst hjk; exact hvec t e n cs hj
    · rw [hσ j hjk] at hj
      obtain ⟨h0, xs, h1, h2⟩ := h.vec j t e n cs hj
      refine ⟨h0, xs, ?_, h2.imp fun x y _ hxy => hxy.kept (fun _ h => h) hDw⟩
      rw [hκ j hjk]
      refine h1.kept hg ?_
      cases ho : (κ j).ownBlock with
      | none => exact .inl rfl
      | some b => exact .inr (hne j b hjk (by simp [hj]) (blk_of_own ho))
  · by_cases hjk : j = k
    · by_cases hjk' : j' = k
      · rw [hjk, hjk']
      · subst hjk
        rw [hσ j' hjk'] at hj'
        rw [hκ j' hjk'] at hb'
        rcases hnew b hj hb with h1 | ⟨h1, h2⟩
        · have := hlt j' b hj' hb'; omega
        · exact h.inj _ _ b h1 hj' h2 hb'
    · by_cases hjk' : j' = k
      · subst hjk'
        rw [hσ j hjk] at hj
        rw [hκ j hjk] at hb
        rcases hnew b hj' hb' with h1 | ⟨h1, h2⟩
        · have := hlt j b hj hb; omega
        · exact h.inj _ _ b hj h1 hb h2
      · rw [hσ j hjk] at hj
        rw [hσ j' hjk'] at hj'
        rw [hκ j hjk] at hb
        rw [hκ j' hjk'] at hb'
        exact h.inj j j' b hj hj' hb hb'
  · by_cases hjk : j = k
    · subst hjk
      rcases hnew b hj hb with h1 | ⟨h1, h2⟩
      · have := h.dom b hDb; omega
      · exact h.apart _ b h1 h2 hDb
    · rw [hσ j hjk] at hj
      rw [hκ j hjk] at hb
      exact h.apart j b hj hb hDb
end Go.VC
