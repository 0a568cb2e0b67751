/- Keys under other names; results as trees. -/
import Derived.Test.YtiohpbhdonlonaaW21
set_option linter.unusedSimpArgs false
set_option linter.unusedVariables false
namespace Go.VC
open Go Go.RowKit
section
variable {w w' : World} {ω ω' : Lab} {κ κ' : Nat → Value} {σ σ' : Sto} {P : Program}

mutual
def Cell.ren (f : Nat → Nat) : Cell → Cell
  | .rf k o => .rf (f k) o
  | .rv k l o => .rv (f k) l o
  | .os k n => .os (f k) n
  | .ov k n o m => .ov (f k) n o m
  | .ns k j => .ns (f k) j
  | .mp k => .mp (f k)
  | .fn g caps => .fn g (renL f caps)
  | .im x => .im x
  | .nl => .nl
  | .ik c n cs => .ik c n cs
  | .bad => .bad
def renL (f : Nat → Nat) : List Cell → List Cell
  | [] => []
  | c :: r => c.ren f :: renL f r
end
def TV.ren (f : Nat → Nat) : TV → TV
  | .c x => .c (x.ren f)
  | .ag cs => .ag (renL f cs)
  | .tp ts => .tp (ts.map fun
    | .c x => .c (x.ren f)
    | .ag cs => .ag (renL f cs)
    | .tp ts => .tp ts)
def Ob.ren (f : Nat → Nat) : Ob → Ob
  | .box t cs => .box t (renL f cs)
  | o => o
def renS (f : Nat → Nat) (σ : Sto) : Sto := σ.map fun p => (f p.1, p.2.ren f)
theorem ren_len (f : Nat → Nat) (o : Ob) : (o.ren f).len? = o.len? := by cases o <;> rfl
theorem renL_len (f : Nat → Nat) : ∀ l : List Cell, (renL f l).length = l.length
  | [] => rfl
  | _ :: r => by simp [renL, renL_len f r]
theorem renL_get (f : Nat → Nat) : ∀ (l : List Cell) (j : Nat), (renL f l)[j]? = (l[j]?).map (Cell.ren f)
  | [], j => by simp [renL]
  | c :: r, 0 => by simp [renL]
  | c :: r, j + 1 => by simp [renL, renL_get f r j]
theorem get_renS {f g : Nat → Nat} (hg : ∀ k, g (f k) = k) : ∀ (σ : Sto) (k : Nat), get (renS f σ) (f k) = (get σ k).map (Ob.ren f)
  | [], k => rfl
  | (j, o) :: r, k => by
    show get ((f j, o.ren f) :: renS f r) (f k) = _
    rw [get_cons, get_cons]
    by_cases h : k = j
    · subst h; simp
    · rw [if_neg h, if_neg (fun e => h (by rw [← hg k, ← hg j, e])), get_renS hg r k]
theorem get_renS' {f : Nat → Nat} : ∀ {σ : Sto} {j : Nat} {o : Ob}, get (renS f σ) j = some o → ∃ k, j = f k
  | [], j, o, h => by cases h
  | (i, p) :: r, j, o, h => by
    have h : get ((f i, p.ren f) :: renS f r) j = some o := h
    rw [get_cons] at h
    split at h
    · rename_i e; exact ⟨i, e⟩
    · exact get_renS' h
def renW (f : Nat → Nat) (ω : Lab) : Lab := fun b => match ω b with | .ob k => .ob (f k) | l => l
theorem renW_im {f : Nat → Nat} {b : Nat} (h : ω b = .im) : renW f ω b = .im := by unfold renW; rw [h]
theorem renW_ob {f : Nat → Nat} {b k : Nat} (h : ω b = .ob k) : renW f ω b = .ob (f k) := by unfold renW; rw [h]
theorem RC.ren {f g : Nat → Nat} (hg : ∀ k, g (f k) = k) {x : Cell} {v : Value} (h : RC w ω κ σ x v) : RC w (renW f ω) (fun k => κ (g k)) (renS f σ) (x.ren f) v := by
  have him : ∀ b, ω b = .im → renW f ω b = .im ∧ w.heap[b]? = w.heap[b]? := fun b hb => ⟨renW_im hb, rfl⟩
  have hget : ∀ k o m, get (renS f σ) (f k) = some o → o.len? = some m → ∃ p, get σ k = some p ∧ p.len? = some m := fun k o m ho hm => by
    rw [get_renS hg] at ho
    obtain ⟨p, hp, rfl⟩ := Option.map_eq_some_iff.1 ho
    exact ⟨p, hp, by rw [← hm, ren_len]⟩
  induction h with
  | im x v h => exact .im x v (h.kept him)
  | nl => exact .nl
  | ik c n cs a h => exact .ik c n cs a (h.kept him)
  | rf k off b h => exact .rf _ off b (by rw [hg]; exact h)
  | rv k len off a h =>
    refine .rv _ len off a fun o m' ho hm => ?_
    obtain ⟨p, g1, g2⟩ := hget k o m' ho hm
    rw [hg]; exact h p m' g1 g2
  | os k n a c h1 h2 h =>
    refine .os _ n a c h1 h2 fun o m' ho hm => ?_
    obtain ⟨p, g1, g2⟩ := hget k o m' ho hm
    rw [hg]; exact h p m' g1 g2
  | ov k n off m a c h1 h2 h =>
    refine .ov _ n off m a c h1 h2 fun o m' ho hm => ?_
    obtain ⟨p, g1, g2⟩ := hget k o m' ho hm
    rw [hg]; exact h p m' g1 g2
  | ns k j v h =>
    refine .ns _ j v fun o m' ho hm => ?_
    obtain ⟨p, g1, g2⟩ := hget k o m' ho hm
    rw [hg]; exact h p m' g1 g2
  | mp k r h => exact .mp _ r (by rw [hg]; exact h)
  | fn g' caps vs hl h ih =>
    refine .fn g' _ vs (by rw [renL_len]; exact hl) fun j x hx => ?_
    rw [renL_get] at hx
    obtain ⟨y, hy, rfl⟩ := Option.map_eq_some_iff.1 hx
    exact ih j y hy
  | bad v => exact .bad v
theorem RT1.ren {f g : Nat → Nat} (hg : ∀ k, g (f k) = k) {x : TV} {v : Value} (h : RT1 w ω κ σ x v) : RT1 w (renW f ω) (fun k => κ (g k)) (renS f σ) (x.ren f) v := by
  cases x with
  | c x => exact RC.ren hg h
  | ag cs =>
    obtain ⟨vs, rfl, h1, h2⟩ := h
    refine ⟨vs, rfl, ⟨by rw [renL_len]; exact h1.1, fun j y z hy hz => ?_⟩, h2⟩
    rw [renL_get] at hy
    obtain ⟨y', hy', rfl⟩ := Option.map_eq_some_iff.1 hy
    exact RC.ren hg (h1.2 j y' z hy' hz)
  | tp ts => exact h.elim
theorem RT.ren {f g : Nat → Nat} (hg : ∀ k, g (f k) = k) {x : TV} {v : Value} (h : RT w ω κ σ x v) : RT w (renW f ω) (fun k => κ (g k)) (renS f σ) (x.ren f) v := by
  cases x with
  | c x => exact RC.ren hg h
  | ag cs => exact RT1.ren (x := .ag cs) hg h
  | tp ts =>
    obtain ⟨vs, rfl, h1⟩ := h
    refine ⟨vs, rfl, by simpa using h1.1, fun j y z hy hz => ?_⟩
    rw [List.getElem?_map] at hy
    obtain ⟨y', hy', rfl⟩ := Option.map_eq_some_iff.1 hy
    have := h1.2 j y' z hy' hz
    cases y' with
    | c x => exact RT1.ren hg this
    | ag cs => exact RT1.ren (x := .ag cs) hg this
    | tp ts => exact this.elim
mutual
theorem ren_anyN (f : Nat → Nat) : ∀ (c : Cell), (c.ren f).anyN = c.anyN
  | .fn g caps => renL_anyN f caps
  | .im _ | .nl | .ik _ _ _ | .rf _ _ | .rv _ _ _ | .os _ _ | .ov _ _ _ _ | .ns _ _ | .mp _ | .bad => rfl
theorem renL_anyN (f : Nat → Nat) : ∀ (l : List Cell), anyNL (renL f l) = anyNL l
  | [] => rfl
  | c :: r => by simp only [renL, anyNL, ren_anyN f c, renL_anyN f r]
end
theorem RS.ren {f g : Nat → Nat} (hg : ∀ k, g (f k) = k) (h : RS w ω κ σ) : RS w (renW f ω) (fun k => κ (g k)) (renS f σ) := by
  have him : ∀ b, ω b = .im → renW f ω b = .im ∧ w.heap[b]? = w.heap[b]? := fun b hb => ⟨renW_im hb, rfl⟩
  refine ⟨fun j o ho => ?_, fun b hb => h.dom b fun e => hb (by unfold renW; rw [e])⟩
  obtain ⟨k, rfl⟩ := get_renS' ho
  rw [get_renS hg] at ho
  obtain ⟨p, hp, rfl⟩ := Option.map_eq_some_iff.1 ho
  have hob := h.ob k p hp
  cases p with
  | box t cs =>
    obtain ⟨b, vs, h1, h2, h3, h4, h5, h6⟩ := hob
    refine ⟨b, vs, by simp only [hg]; exact h1, renW_ob h2, h3, ⟨by rw [renL_len]; exact h4.1, fun j y z hy hz => ?_⟩, h5, by rw [renL_anyN]; exact h6⟩
    rw [renL_get] at hy
    obtain ⟨y', hy', rfl⟩ := Option.map_eq_some_iff.1 hy
    exact RC.ren hg (h4.2 j y' z hy' hz)
  | vec t e n cs own =>
    obtain ⟨h0, xs, h1, h2, h3⟩ := hob
    refine ⟨h0, xs, by simp only [hg]; exact h1, fun b hb => renW_ob (h2 b (by simpa only [hg] using hb)), ?_⟩
    simp only [hg]
    unfold CellsOk at h3 ⊢
    split
    · rename_i ho; rw [if_pos ho] at h3
      obtain ⟨h4, Ss, h5, h6, h7⟩ := h3
      exact ⟨h4, Ss, h5, h6, fun j b hj hb => ⟨renW_ob (h7 j b hj hb).1, (h7 j b hj hb).2⟩⟩
    · rename_i ho; rw [if_neg ho] at h3; exact h3.imp fun x y _ hxy => hxy.kept him
  | row n cs =>
    obtain ⟨S, h1, h2⟩ := hob
    exact ⟨S, by simp only [hg]; exact h1, fun b hb => renW_ob (h2 b hb)⟩
/-- New objects may have any names. -/
theorem FnS.ren {g : FuncId} {ys : List TV} {σ1 : Sto} {r : TV} (f f' : Nat → Nat) (hf : ∀ k, f' (f k) = k) (h : FnS P g [] ys σ1 r) : FnS P g [] ys (renS f σ1) (r.ren f) := by
  intro w ω κ vs hS hω hvs
  refine (h w ω κ vs hS hω hvs).mono fun e w' ⟨v, ω', κ', he, ht, hS', hr, hk⟩ => ⟨v, renW f ω', fun k => κ' (f' k), he, ⟨ht.os, ht.tape, ht.output, ht.size, ht.block, fun b hb => renW_im (ht.im b hb), fun b hb hn => by unfold renW; rw [ht.no b hb hn]⟩, hS'.ren hf, hr.ren hf, fun k hk' => by rw [get_nil] at hk'; cases hk'⟩
/-- A renaming that is undone. -/
structure Pm where
  f : Nat → Nat
  g : Nat → Nat
  gf : ∀ k, g (f k) = k
  fg : ∀ k, f (g k) = k
def swp (a b : Nat) (k : Nat) : Nat := if k = a then b else if k = b then a else k
theorem swp_swp (a b k : Nat) : swp a b (swp a b k) = k := by
  unfold swp
  by_cases h1 : k = a
  · subst h1; by_cases h2 : b = k <;> simp [h2]
  · by_cases h2 : k = b
    · subst h2; simp [h1]
    · simp [h1, h2]
def Pm.sw (a b : Nat) : Pm := ⟨swp a b, swp a b, swp_swp a b, swp_swp a b⟩
def Pm.then (p q : Pm) : Pm := ⟨fun k => q.f (p.f k), fun k => p.g (q.g k), fun k => by rw [q.gf, p.gf], fun k => by rw [p.fg, q.fg]⟩
theorem pm1 (s t : Nat) : ∃ p : Pm, p.f s = t := ⟨Pm.sw s t, by simp [Pm.sw, swp]⟩
theorem pm2 {s1 s2 : Nat} (hs : s1 ≠ s2) {t1 t2 : Nat} (ht : t1 ≠ t2) : ∃ p : Pm, p.f s1 = t1 ∧ p.f s2 = t2 := by
  obtain ⟨p, hp⟩ := pm1 s1 t1
  refine ⟨p.then (Pm.sw (p.f s2) t2), ?_, ?_⟩
  · have h1 : p.f s1 ≠ p.f s2 := fun e => hs (by rw [← p.gf s1, ← p.gf s2, e])
    simp [Pm.then, Pm.sw, swp, hp ▸ h1, hp, ht]
  · simp [Pm.then, Pm.sw, swp]
theorem pm3 {s1 s2 s3 : Nat} (hs : s1 ≠ s2 ∧ s1 ≠ s3 ∧ s2 ≠ s3) {t1 t2 t3 : Nat} (ht : t1 ≠ t2 ∧ t1 ≠ t3 ∧ t2 ≠ t3) : ∃ p : Pm, p.f s1 = t1 ∧ p.f s2 = t2 ∧ p.f s3 = t3 := by
  obtain ⟨p, h1, h2⟩ := pm2 hs.1 ht.1
  have e1 : t1 ≠ p.f s3 := fun e => hs.2.1 (by rw [← p.gf s1, ← p.gf s3, h1, e])
  have e2 : t2 ≠ p.f s3 := fun e => hs.2.2 (by rw [← p.gf s2, ← p.gf s3, h2, e])
  refine ⟨p.then (Pm.sw (p.f s3) t3), ?_, ?_, ?_⟩
  · simp [Pm.then, Pm.sw, swp, h1, e1, ht.2.1]
  · simp [Pm.then, Pm.sw, swp, h2, e2, ht.2.2]
  · simp [Pm.then, Pm.sw, swp]
theorem FnS.pm {g : FuncId} {ys : List TV} {σ1 : Sto} {r : TV} (p : Pm) (h : FnS P g [] ys σ1 r) : FnS P g [] ys (renS p.f σ1) (r.ren p.f) := h.ren p.f p.g p.gf

/-- A result that is a tree. -/
theorem FnS.tree {g : FuncId} {ys : List TV} {σ1 : Sto} {r r' : TV} (h : FnS P g [] ys σ1 r) (hr : argT σ1 r = some r') : FnS P g [] ys [] r' := by
  intro w ω κ vs hS hω hvs
  refine (h w ω κ vs hS hω hvs).mono fun e w' ⟨v, ω', κ', he, ht, hS', hrv, hk⟩ => ⟨v, allIm ω', κ', he, ⟨ht.os, ht.tape, ht.output, ht.size, ht.block, fun b hb => allIm_im (ht.im b hb), fun b hb hn => by unfold allIm; rw [ht.no b hb hn]⟩, ⟨fun k o ho => (by rw [get_nil] at ho; cases ho), fun b hb => hS'.dom b fun e => hb (by unfold allIm; rw [e])⟩, ?_, fun k hk' => (by rw [get_nil] at hk'; cases hk')⟩
  cases r with
  | c x =>
    obtain ⟨z, hz, rfl⟩ := Option.map_eq_some_iff.1 hr
    exact .im _ _ (toIV_ok hS' hrv hz)
  | ag cs =>
    obtain ⟨zs, hz, rfl⟩ := Option.map_eq_some_iff.1 hr
    obtain ⟨us, rfl, g1, g2⟩ := hrv
    have := toIVL_ok hS' hz g1
    refine ⟨us, rfl, ⟨by simp [this.1], fun j p q hp hq => ?_⟩, g2⟩
    rw [List.getElem?_map] at hp
    obtain ⟨z, hz', rfl⟩ := Option.map_eq_some_iff.1 hp
    exact .im _ _ (this.2 j z q hz' hq)
  | tp ts => cases hr

/-! Sizes of trees. -/
def okV (b : Nat) : Value → Prop
  | .string s => s.size ≤ b
  | .int k n => k.min ≤ n ∧ n ≤ k.max
  | _ => True
mutual
def okI (b : Nat) : IV → Prop
  | .sc v => okV b v
  | .sl n cs => n ≤ b ∧ okL b cs
  | .pt cs => okL b cs
  | .fn _ cs => okL b cs
def okL (b : Nat) : List IV → Prop
  | [] => True
  | x :: r => okI b x ∧ okL b r
end
def mV : Value → Nat
  | .string s => s.size
  | _ => 0
mutual
def mI : IV → Nat
  | .sc v => mV v
  | .sl n cs => n + mL cs
  | .pt cs => mL cs
  | .fn _ cs => mL cs
def mL : List IV → Nat
  | [] => 0
  | x :: r => mI x + mL r
end
mutual
theorem okI_down {B b : Nat} : ∀ {x : IV}, okI B x → mI x ≤ b → okI b x
  | .sc v, h, g => by
    cases v <;> simp only [okI, okV, mI, mV] at h g ⊢ <;> first | trivial | exact g | exact h
  | .sl n cs, h, g => by
    simp only [okI, mI] at h g ⊢
    exact ⟨by omega, okL_down h.2 (by omega)⟩
  | .pt cs, h, g => by
    simp only [okI, mI] at h g ⊢
    exact okL_down h g
  | .fn _ cs, h, g => by
    simp only [okI, mI] at h g ⊢
    exact okL_down h g
theorem okL_down {B b : Nat} : ∀ {l : List IV}, okL B l → mL l ≤ b → okL b l
  | [], _, _ => by simp only [okL]
  | x :: r, h, g => by
    simp only [okL, mL] at h g ⊢
    exact ⟨okI_down h.1 (by omega), okL_down h.2 (by omega)⟩
end
theorem okL_append {b : Nat} : ∀ {x y : List IV}, okL b (x ++ y) ↔ okL b x ∧ okL b y
  | [], y => by simp [okL]
  | x :: r, y => by simp [okL, okL_append, and_assoc]
theorem okL_flat {b : Nat} {α : Type} {E : α → List IV} : ∀ {xs : List α}, okL b (xs.flatMap E) ↔ ∀ x ∈ xs, okL b (E x)
  | [] => by simp [okL]
  | x :: r => by rw [List.flatMap_cons, okL_append, okL_flat]; simp
theorem okI_slI {b : Nat} {α : Type} {E : α → List IV} {xs : List α} : okI b (slI E xs) ↔ xs.length ≤ b ∧ ∀ x ∈ xs, okL b (E x) := by simp [slI, okI, okL_flat]
theorem mL_append : ∀ {x y : List IV}, mL (x ++ y) = mL x + mL y
  | [], y => by simp [mL]
  | x :: r, y => by simp [mL, mL_append, Nat.add_assoc]
theorem mL_flat {α : Type} {E : α → List IV} : ∀ {xs : List α}, mL (xs.flatMap E) = (xs.map fun x => mL (E x)).sum
  | [] => by simp [mL]
  | x :: r => by rw [List.flatMap_cons, mL_append, mL_flat]; simp
theorem mI_slI {α : Type} {E : α → List IV} {xs : List α} : mI (slI E xs) = xs.length + (xs.map fun x => mL (E x)).sum := by rw [slI, mI, mL_flat]
end
end Go.VC
