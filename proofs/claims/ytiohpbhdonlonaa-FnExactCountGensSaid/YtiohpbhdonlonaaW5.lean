/- Own rows as trees; what is never written again. -/
import Derived.Test.YtiohpbhdonlonaaW4
set_option linter.unusedSimpArgs false
set_option linter.unusedVariables false
namespace Go.VC
open Go Go.RowKit
section
variable {β : Base} {w w' : World} {ω ω' : Lab} {κ κ' : Nat → Value} {σ σ' : Sto} {E : Env} {a : Act} {s : St} {P : Program}

def Ob.cells : Ob → List IV
  | .box _ _ => []
  | .vec _ _ _ cs _ => cs
  | .row _ cs => cs
/-- An own row, all of it its own, as a tree. -/
theorem vec_RO {k n e : Nat} {t : TypeId} {cs : List IV} (h : ObOk w ω κ σ k (.vec t e n cs true)) : ∃ S, RO w (.sl n cs) (κ k) S ∧ ∀ b, S b → ω b = .ob k := by
  obtain ⟨h0, xs, h1, h2, h3⟩ := h
  have h3 : OwnC w ω k (rowB (κ k)) cs xs := h3
  obtain ⟨h4, Ss, h5, h6, h7⟩ := h3
  rcases h1.2 with ⟨rfl, a, hv⟩ | ⟨g, cap, cur, hv, hc, hg, hn, hm, hs, ht⟩
  · have : cs = [] := List.eq_nil_of_length_eq_zero (by rw [h4, h1.1]; simp)
    subst this
    exact ⟨fun _ => False, by rw [hv]; exact .z a _ fun _ h => h, fun _ h => h.elim⟩
  · rw [hv] at h2 h7 ⊢
    rw [rowB_some hc] at h2 h7
    have hl : cs.length ≤ cur.size := by rw [h4, h1.1, hs]; exact Nat.mul_le_mul_right _ hn
    refine ⟨fun b => b = g ∨ ∃ j, j < cs.length ∧ Ss j b, .sl n cap g t cur cs Ss _ hg hc hn hm hl (fun j x hx => ?_) (fun j hj hb => (h7 j g hj hb).2 rfl) h6 (fun _ => Iff.rfl), fun b hb => ?_⟩
    · have hj := (List.getElem?_eq_some_iff.1 hx).1
      refine h5 j x _ hx ?_
      rw [← ht, List.getElem?_take_of_lt (by rw [← h1.1, ← h4]; exact hj)]
      simp [Array.getD, show j < cur.size by omega]
    · rcases hb with rfl | ⟨j, hj, hb⟩
      · exact h2 _ rfl
      · exact (h7 j b hj hb).1
/-- An own row reads as a tree where its blocks are all's. -/
theorem ob_RI {k n : Nat} {o : Ob} (h : ObOk w ω κ σ k o) (hm : o.len? = some n) (hi : ∀ b, ω b = .im → ω' b = .im) (hk : ∀ b, ω b = .ob k → ω' b = .im) : RI w ω' (.sl n o.cells) (κ k) := by
  cases o with
  | box => cases hm
  | row m cs =>
    obtain rfl := Option.some.inj hm
    obtain ⟨S, h1, h2⟩ := h
    exact h1.im fun b hb => hk b (h2 b hb)
  | vec t e m cs own =>
    obtain rfl := Option.some.inj hm
    cases own with
    | true =>
      obtain ⟨S, h1, h2⟩ := vec_RO h
      exact h1.im fun b hb => hk b (h2 b hb)
    | false =>
      obtain ⟨h0, xs, h1, h2, h3⟩ := h
      have h3 : All2 (RI w ω) cs xs := h3
      obtain ⟨ad, c, hv, hn, hc, _⟩ := h1.slice
      have hcell := h1.cells
      rw [hv]
      cases ad with
      | none =>
        rcases h1.2 with ⟨rfl, a, hv'⟩ | ⟨g, cap, cur, hv', _⟩
        · rw [hv] at hv'
          injection hv' with _ _ q
          subst q
          have : cs = [] := List.eq_nil_of_length_eq_zero (by rw [h3.1, h1.1]; simp)
          rw [show (Ob.vec t e 0 cs false).cells = [] from this]
          exact .slnil
        · rw [hv] at hv'; cases hv'
      | some ad =>
        refine .sl _ _ _ ad (fun i => xs.getD i undef) (fun hne => ?_) hn hc (fun i hi => ?_) fun i x hx => ?_
        · rcases h1.2 with ⟨hn0, a, hv'⟩ | ⟨g, cap, cur, hv', hc', _⟩
          · exact absurd (List.eq_nil_of_length_eq_zero (by show cs.length = 0; rw [h3.1, h1.1, hn0]; simp)) hne
          · refine hk _ (h2 _ ?_)
            rw [hv] at hv' ⊢
            injection hv' with q1 q2 q3
            rw [q3, rowB_some hc']
        · have hl : i < xs.length := by have := h3.1; simp [Ob.cells] at hi; omega
          have := hcell ad _ c hv i xs[i] (by simp [hl])
          simpa [List.getD, hl] using this
        · obtain ⟨u, hu, hr⟩ := h3.get hx
          have : xs.getD i undef = u := by rw [List.getD, hu]; rfl
          rw [this]
          exact hr.kept fun b hb => ⟨hi b hb, rfl⟩

/-- Cells that are trees. -/
def toIVs : List Cell → Option (List IV)
  | [] => some []
  | .im x :: r => (toIVs r).map (x :: ·)
  | .nl :: r => (toIVs r).map (.sl 0 [] :: ·)
  | .ik _ n cs :: r => (toIVs r).map (.sl n cs :: ·)
  | .fn f [] :: r => (toIVs r).map (.fn f [] :: ·)
  | _ => none
theorem All2.cons {α δ : Type} {R : α → δ → Prop} {x : α} {y : δ} {xs : List α} {ys : List δ} (h : R x y) (h' : All2 R xs ys) : All2 R (x :: xs) (y :: ys) :=
  ⟨by simp [h'.1], fun j u v hu hv => by
    cases j with
    | zero => simp at hu hv; subst hu; subst hv; exact h
    | succ j => exact h'.2 j u v (by simpa using hu) (by simpa using hv)⟩
theorem All2.tail {α δ : Type} {R : α → δ → Prop} {x : α} {y : δ} {xs : List α} {ys : List δ} (h : All2 R (x :: xs) (y :: ys)) : All2 R xs ys := ⟨by simpa using h.1, fun j u v hu hv => h.2 (j + 1) u v hu hv⟩
theorem All2.head {α δ : Type} {R : α → δ → Prop} {x : α} {y : δ} {xs : List α} {ys : List δ} (h : All2 R (x :: xs) (y :: ys)) : R x y := h.2 0 x y rfl rfl
theorem toIVs_ok {cs : List Cell} {xs : List IV} (h : toIVs cs = some xs) {vs : List Value} (hv : All2 (RC w ω κ σ) cs vs) : All2 (RI w ω) xs vs := by
  induction cs generalizing xs vs with
  | nil => obtain rfl := Option.some.inj h; exact ⟨hv.1, by simp⟩
  | cons c r ih =>
    cases vs with
    | nil => simp [All2] at hv
    | cons v vs =>
      have h0 : RC w ω κ σ c v := hv.head
      have ht : All2 (RC w ω κ σ) r vs := hv.tail
      have fin : ∀ {x : IV} {ys : List IV}, RI w ω x v → toIVs r = some ys → All2 (RI w ω) (x :: ys) (v :: vs) := fun hx hys => .cons hx (ih hys ht)
      unfold toIVs at h
      split at h
      · rename_i heq; cases heq
      · rename_i x r' heq
        obtain ⟨rfl, rfl⟩ := List.cons.inj heq
        obtain ⟨ys, hys, rfl⟩ := Option.map_eq_some_iff.1 h
        cases h0 with | im _ _ h0 => exact fin h0 hys
      · rename_i r' heq
        obtain ⟨rfl, rfl⟩ := List.cons.inj heq
        obtain ⟨ys, hys, rfl⟩ := Option.map_eq_some_iff.1 h
        cases h0; exact fin .slnil hys
      · rename_i c' n' cs' r' heq
        obtain ⟨rfl, rfl⟩ := List.cons.inj heq
        obtain ⟨ys, hys, rfl⟩ := Option.map_eq_some_iff.1 h
        cases h0 with | ik _ _ _ _ h0 => exact fin h0 hys
      · rename_i f r' heq
        obtain ⟨rfl, rfl⟩ := List.cons.inj heq
        obtain ⟨ys, hys, rfl⟩ := Option.map_eq_some_iff.1 h
        cases h0 with
        | fn _ _ vs' hl hc => exact fin (.fn f [] vs' hl (by simp)) hys
      · cases h

theorem RI_len {n m c : Nat} {cs : List IV} {a : Option Addr} (h : RI w ω (.sl m cs) (.slice a n c)) : n = m := by cases h <;> rfl
/-- A part of a tree that is a slice. -/
theorem RI_pt {n off b c : Nat} {cs : List IV} (h : RI w ω (.sl n cs) (.slice (some ⟨b, 0, none⟩) n c)) : RI w ω (.pt (cs.drop off)) (.pointer (some ⟨b, off, none⟩)) := by
  cases h with
  | sl _ _ _ a vs hd hn hm hcell hr =>
    refine .pt _ _ (fun i => vs (off + i)) (fun hne => hd (by rintro rfl; simp at hne)) (fun i hi => ?_) fun i x hx => ?_
    · rw [Addr.add_lit]
      have := hcell (off + i) (by simp at hi; omega)
      rw [addr_add_lit] at this; exact this
    · rw [List.getElem?_drop] at hx; exact hr _ _ hx
theorem RI_ov {n off m z c : Nat} {cs : List IV} {kv : Value} {a' : Option Addr} (h : RI w ω (.sl n cs) kv) (hmc : m ≤ c) (ho : OvOk kv off a' m c) : RI w ω (.sl m ((cs.drop off).take (m * z))) (.slice a' m c) := by
  obtain ⟨h1, h2, h3, h4⟩ := ho
  rcases Nat.eq_zero_or_pos c with rfl | hc
  · obtain rfl : m = 0 := by omega
    simp only [Nat.zero_mul, List.take_zero]
    cases a' with
    | none => exact .slnil
    | some a => exact .sl 0 0 [] a (fun _ => undef) (fun h => absurd rfl h) (Nat.le_refl _) (by simp [maxLen]) (fun j hj => by simp at hj) (fun j x hx => by simp at hx)
  · obtain ⟨b, l, c', rfl, rfl⟩ := h3 hc
    have h5 : RI w ω (.pt (cs.drop off)) (.pointer (some ⟨b, off, none⟩)) := by
      have : l = n := by cases h; rfl
      subst this
      exact RI_pt h
    cases h5 with
    | pt _ _ vs hd hcell hr =>
      refine .sl _ _ _ _ vs (fun hne => hd (by intro he; rw [he] at hne; simp at hne)) h1 h2 (fun i hi => hcell i (by simp at hi ⊢; omega)) fun i x hx => hr i x ?_
      have hi : i < m * z := by have := (List.getElem?_eq_some_iff.1 hx).1; simp at this; omega
      rw [List.getElem?_take_of_lt hi] at hx; exact hx
def Ob.esz : Ob → Nat
  | .vec _ e _ _ _ => e
  | _ => 0

/-- The object k is never written again: what is known of it becomes a tree. -/
def Cell.frz (k : Nat) (o : Ob) : Cell → Cell
  | .rf j off => if j = k then (match o with | .box _ cs => (match toIVs cs with | some xs => .im (.pt (xs.drop off)) | none => .bad) | _ => .bad) else .rf j off
  | .rv j len off => if j = k then (if o.len? = some len then .im (.pt (o.cells.drop off)) else .bad) else .rv j len off
  | .os j n => if j = k then (if o.len? = some n then .im (.sl n o.cells) else .bad) else .os j n
  | .ov j n off m => if j = k then (if o.len? = some n then .im (.sl m ((o.cells.drop off).take (m * o.esz))) else .bad) else .ov j n off m
  | .ns j i => if j = k then (match o.cells[i]? with | some x => .im x | none => .bad) else .ns j i
  | .mp j => if j = k then .bad else .mp j
  | .fn f caps => if hasL k caps then .bad else .fn f caps
  | c => c
def TV.frz (k : Nat) (o : Ob) : TV → TV
  | .c x => .c (x.frz k o)
  | .ag cs => .ag (cs.map (·.frz k o))
  | .tp ts => .tp (ts.map fun
    | .c x => .c (x.frz k o)
    | .ag cs => .ag (cs.map (·.frz k o))
    | .tp ts => .tp ts)
def frzE (k : Nat) (o : Ob) : Env → Env
  | [] => []
  | (t, x) :: r => (t, x.frz k o) :: frzE k o r
def frzO (k : Nat) (o : Ob) : Ob → Ob
  | .box t cs => .box t (cs.map (·.frz k o))
  | p => p
def frzS (k : Nat) (o : Ob) : Sto → Sto
  | [] => []
  | (j, p) :: r => if j = k then frzS k o r else (j, frzO k o p) :: frzS k o r
def St.frz (s : St) (k : Nat) : St := match get s.σ k with
  | some o => ⟨s.N, frzE k o s.E, frzS k o s.σ⟩
  | none => s
theorem get_frzE (k : Nat) (o : Ob) (t : Nat) : get (frzE k o E) t = (get E t).map (·.frz k o) := by
  induction E with
  | nil => rfl
  | cons p r ih =>
    obtain ⟨u, x⟩ := p
    simp only [frzE, get_cons, ih]
    split <;> rfl
theorem get_frzS (k : Nat) (o : Ob) (j : Nat) : get (frzS k o σ) j = if j = k then none else (get σ j).map (frzO k o) := by
  induction σ with
  | nil => simp [frzS, get]
  | cons p r ih =>
    obtain ⟨u, x⟩ := p
    simp only [frzS]
    by_cases hu : u = k
    · subst hu
      rw [if_pos rfl, ih, get_cons]
      by_cases hj : j = u
      · simp [hj]
      · simp [hj]
    · rw [if_neg hu, get_cons, get_cons, ih]
      by_cases hj : j = u
      · subst hj; simp [hu]
      · simp [hj]
theorem frzO_len (k : Nat) (o p : Ob) : (frzO k o p).len? = p.len? := by cases p <;> rfl
theorem has_ne {k i : Nat} {c : Cell} (h : c.has k = false) (hi : c.has i = true) : i ≠ k := fun e => by subst e; rw [h] at hi; cases hi

/-- The blocks of k are all's now. -/
def imL (ω : Lab) (k : Nat) : Lab := fun b => if ω b = .ob k then .im else ω b
theorem imL_im (ω : Lab) (k b : Nat) (h : ω b = .im) : imL ω k b = .im := by unfold imL; rw [h]; simp
theorem imL_k (ω : Lab) (k b : Nat) (h : ω b = .ob k) : imL ω k b = .im := by unfold imL; rw [if_pos h]
theorem imL_j (ω : Lab) {k j b : Nat} (hj : j ≠ k) (h : ω b = .ob j) : imL ω k b = .ob j := by unfold imL; rw [if_neg (by rw [h]; simp; exact hj), h]

theorem RC.frz {k : Nat} {o : Ob} (hS : RS w ω κ σ) (hk : get σ k = some o) {x : Cell} {v : Value} (h : RC w ω κ σ x v) : RC w (imL ω k) κ (frzS k o σ) (x.frz k o) v := by
  have hover : ∀ {y : Cell}, y.has k = false → Over w ω κ σ w (imL ω k) κ (frzS k o σ) (fun k => y.has k = true) (fun k => y.hasN k = true) := fun {y} hy => by
    have hg : ∀ j, j ≠ k → ∀ o' m', get (frzS k o σ) j = some o' → o'.len? = some m' → ∃ p, get σ j = some p ∧ p.len? = some m' := fun j hj o' m' ho hm => by
      rw [get_frzS, if_neg hj] at ho
      obtain ⟨p, hp, rfl⟩ := Option.map_eq_some_iff.1 ho
      exact ⟨p, hp, by rw [← hm, frzO_len]⟩
    refine ⟨fun b hb => ⟨imL_im ω k b hb, rfl⟩, fun j hj => ⟨fun _ => rfl, fun o' m' ho hm => ?_⟩, fun j hj o' m' ho hm => ?_⟩
    · obtain ⟨p, h1, h2⟩ := hg j (has_ne hy hj) o' m' ho hm
      exact ⟨p, m', h1, h2, Nat.le_refl _, fun _ => rfl⟩
    · obtain ⟨p, h1, h2⟩ := hg j (has_ne hy (hasN_has j y hj)) o' m' ho hm
      exact ⟨⟨p, m', h1, h2⟩, rfl, fun _ _ _ _ _ => rfl⟩
  have hstep : ∀ {y : Cell}, y.has k = false → RC w ω κ σ y v → RC w (imL ω k) κ (frzS k o σ) y v := fun hy hr => hr.step (hover hy)
  have hob := hS.ob k o hk
  have hRI : ∀ n, o.len? = some n → RI w (imL ω k) (.sl n o.cells) (κ k) := fun n hm => ob_RI hob hm (fun b hb => imL_im ω k b hb) fun b hb => imL_k ω k b hb
  cases x with
  | im x => exact hstep rfl h
  | nl => exact hstep rfl h
  | ik => exact hstep rfl h
  | bad => exact .bad v
  | mp j =>
    simp only [Cell.frz]
    split
    · exact .bad v
    · rename_i hj; exact hstep (by simpa [Cell.has] using hj) h
  | fn f caps =>
    simp only [Cell.frz]
    split
    · exact .bad v
    · rename_i hc
      exact hstep (by simpa [Cell.has] using hc) h
  | rf j off =>
    simp only [Cell.frz]
    split
    · rename_i hj
      subst hj
      cases o with
      | vec => exact .bad v
      | row => exact .bad v
      | box t cs =>
        simp only
        split
        · rename_i xs hxs
          obtain ⟨b, vs, h1, h2, h3, h4, h5, _⟩ := hob
          have h6 := toIVs_ok hxs h4
          cases h with
          | rf _ _ b' hb' =>
            have : b = b' := by rw [h1] at hb'; simpa using hb'
            subst this
            refine .im _ _ (.pt _ _ (fun i => vs.toList.getD (off + i) undef) (fun _ => imL_k ω j b h2) (fun i hi => ?_) fun i x hx => ?_)
            · rw [Addr.add_lit, cell_row h3]
              have : off + i < vs.size := by have := h6.1; simp at hi this; omega
              simp [List.getD, this]
            · rw [List.getElem?_drop] at hx
              obtain ⟨u, hu, hr⟩ := h6.get hx
              have : vs.toList.getD (off + i) undef = u := by rw [List.getD, hu]; rfl
              rw [this]
              exact hr.kept fun b hb => ⟨imL_im ω j b hb, rfl⟩
        · exact .bad v
    · rename_i hj; exact hstep (by simpa [Cell.has] using hj) h
  | rv j len off =>
    simp only [Cell.frz]
    split
    · rename_i hj
      subst hj
      split
      · rename_i hm
        cases h with
        | rv _ _ _ ad hh =>
          obtain ⟨b, n, c, hkk, rfl⟩ := (hh o len hk hm).2 rfl
          have := hRI len hm
          rw [hkk] at this
          have hn : n = len := RI_len this
          subst hn
          exact .im _ _ (RI_pt this)
      · exact .bad v
    · rename_i hj; exact hstep (by simpa [Cell.has] using hj) h
  | os j n =>
    simp only [Cell.frz]
    split
    · rename_i hj
      subst hj
      split
      · rename_i hm
        cases h with
        | os _ _ ad c hnc _ hh =>
          have := hRI n hm
          rw [(hh o n hk hm).2 rfl] at this
          exact .im _ _ this
      · exact .bad v
    · rename_i hj; exact hstep (by simpa [Cell.has] using hj) h
  | ov j n off m =>
    simp only [Cell.frz]
    split
    · rename_i hj
      subst hj
      split
      · rename_i hm
        cases h with
        | ov _ _ _ _ ad c hmc _ hh => exact .im _ _ (RI_ov (hRI n hm) hmc ((hh o n hk hm).2 rfl))
      · exact .bad v
    · rename_i hj; exact hstep (by simpa [Cell.has] using hj) h
  | ns j i =>
    simp only [Cell.frz]
    split
    · rename_i hj
      subst hj
      split
      · rename_i x hx
        cases h with
        | ns _ _ _ hh =>
          have hl : ∃ m, o.len? = some m := by cases o <;> first | (simp [Ob.cells] at hx; done) | exact ⟨_, rfl⟩
          obtain ⟨m, hm⟩ := hl
          obtain ⟨b, n, c, hkk, hc, hcell⟩ := hh o m hk hm
          have := hRI m hm
          rw [hkk] at this
          have hnm : n = m := RI_len this
          subst hnm
          generalize o.cells = cs at hx this
          cases this with
          | sl _ _ _ a vs hd hn hm' hce hr =>
            have h1 := hce i (List.getElem?_eq_some_iff.1 hx).1
            rw [addr_add_lit, hcell] at h1
            have h2 := hr i x hx
            rw [← Option.some.inj h1] at h2
            exact .im _ _ h2
      · exact .bad v
    · rename_i hj; exact hstep (by simpa [Cell.has] using hj) h

theorem RT1.frz {k : Nat} {o : Ob} (hS : RS w ω κ σ) (hk : get σ k = some o) {x : TV} {v : Value} (h : RT1 w ω κ σ x v) : RT1 w (imL ω k) κ (frzS k o σ) (x.frz k o) v := by
  cases x with
  | c x => exact RC.frz hS hk h
  | ag cs =>
    obtain ⟨vs, rfl, h1, h2⟩ := h
    refine ⟨vs, rfl, ⟨by simp [h1.1], fun j y z hy hz => ?_⟩, h2⟩
    rw [List.getElem?_map] at hy
    obtain ⟨y', hy', rfl⟩ := Option.map_eq_some_iff.1 hy
    exact RC.frz hS hk (h1.2 j y' z hy' hz)
  | tp ts => exact h.elim
theorem RT.frz {k : Nat} {o : Ob} (hS : RS w ω κ σ) (hk : get σ k = some o) {x : TV} {v : Value} (h : RT w ω κ σ x v) : RT w (imL ω k) κ (frzS k o σ) (x.frz k o) v := by
  cases x with
  | c x => exact RC.frz hS hk h
  | ag cs => exact RT1.frz (x := .ag cs) hS hk h
  | tp ts =>
    obtain ⟨vs, rfl, h1⟩ := h
    refine ⟨vs, rfl, by simp [h1.1], fun j y z hy hz => ?_⟩
    rw [List.getElem?_map] at hy
    obtain ⟨y', hy', rfl⟩ := Option.map_eq_some_iff.1 hy
    have := h1.2 j y' z hy' hz
    cases y' with
    | c x => exact RC.frz hS hk this
    | ag cs => exact RT1.frz (x := .ag cs) hS hk this
    | tp ts => exact this.elim
theorem frz_anyN (k : Nat) (o : Ob) : ∀ (c : Cell), c.anyN = false → (c.frz k o).anyN = false := by
  intro c h
  cases c with
  | ns => cases h
  | fn f caps =>
    simp only [Cell.frz]
    split
    · rfl
    · exact h
  | rf => 
    simp only [Cell.frz]
    split
    · cases o with
      | box t cs => simp only; split <;> rfl
      | _ => rfl
    · rfl
  | _ =>
    simp only [Cell.frz]
    try split
    all_goals first | rfl | (split <;> rfl)
theorem anyNL_of : ∀ {l : List Cell}, (∀ x ∈ l, x.anyN = false) → anyNL l = false
  | [], _ => rfl
  | c :: r, h => by
    have h1 := h c List.mem_cons_self
    have h2 : anyNL r = false := anyNL_of fun x hx => h x (List.mem_cons_of_mem _ hx)
    simp [anyNL, h1, h2]

theorem Rel.frz (h : Rel β ω κ s a w) (k : Nat) : ∃ ω', Rel β ω' κ (s.frz k) a w := by
  unfold St.frz
  cases hk : get s.σ k with
  | none => exact ⟨ω, h⟩
  | some o =>
    refine ⟨imL ω k, h.turn.trans ⟨rfl, rfl, rfl, Nat.le_refl _, fun _ _ _ => rfl, fun b hb => imL_im ω k b hb, fun b _ hb => by unfold imL; rw [if_neg (by rw [hb]; simp)]; exact hb⟩, fun j hj => (h.keys j hj).trans ⟨fun _ => rfl, fun o' m' ho hm => ?_⟩, h.odd, h.defers, h.size, fun t x hx => ?_, ⟨fun j o' ho => ?_, fun b hb => h.rs.dom b fun hb' => hb (by unfold imL; rw [if_neg (by rw [hb']; simp)]; exact hb')⟩⟩
    · rw [get_frzS] at ho
      split at ho
      · cases ho
      · obtain ⟨p, hp, rfl⟩ := Option.map_eq_some_iff.1 ho
        rw [frzO_len] at hm
        exact ⟨p, m', hp, hm, Nat.le_refl _, fun _ => rfl⟩
    · simp only at hx
      rw [get_frzE] at hx
      obtain ⟨y, hy, rfl⟩ := Option.map_eq_some_iff.1 hx
      exact ⟨(h.env t y hy).1, (h.env t y hy).2.frz h.rs hk⟩
    · simp only at ho
      rw [get_frzS] at ho
      split at ho
      · cases ho
      · rename_i hjk
        obtain ⟨p, hp, rfl⟩ := Option.map_eq_some_iff.1 ho
        have hob := h.rs.ob j p hp
        cases p with
        | box t cs =>
          obtain ⟨b, vs, h1, h2, h3, h4, h5, h6⟩ := hob
          refine ⟨b, vs, h1, imL_j ω hjk h2, h3, ⟨by simp [h4.1], fun i y z hy hz => ?_⟩, h5, anyNL_of fun x hx => ?_⟩
          · rw [List.getElem?_map] at hy
            obtain ⟨y', hy', rfl⟩ := Option.map_eq_some_iff.1 hy
            exact RC.frz h.rs hk (h4.2 i y' z hy' hz)
          · obtain ⟨y, hy, rfl⟩ := List.mem_map.1 hx
            exact frz_anyN k o y (anyNL_mem h6 y hy)
        | vec t e n cs own => exact ObOk.step (o := .vec t e n cs own) hob rfl (fun b hb => ⟨imL_j ω hjk hb, rfl⟩) (fun b hb => ⟨imL_im ω k b hb, rfl⟩) fun _ _ h => by cases h
        | row n cs => exact ObOk.step (o := .row n cs) hob rfl (fun b hb => ⟨imL_j ω hjk hb, rfl⟩) (fun b hb => ⟨imL_im ω k b hb, rfl⟩) fun _ _ h => by cases h
end
end Go.VC
