/- Slices that are made, freezing, appending. -/
import Derived.Test.YtdedakeldfgjbaaV4
set_option linter.unusedSimpArgs false
set_option linter.unusedVariables false
namespace Go.VC
open Go Go.RowKit
section
variable {w w' : World} {D D' D0 : Nat → Prop} {κ κ' : Nat → Value} {σ : Sto} {E : Env} {a : Act} {B : Nat} {w0 : World} {s : St}

theorem RS.lt (h : RS w B D κ σ) {j b : Nat} (hs : (get σ j).isSome = true) (hb : blk (κ j) = some b) : b < w.heap.size := by
  cases ho : get σ j with
  | none => simp [ho] at hs
  | some o =>
    cases o with
    | box t cs =>
      obtain ⟨b', vs, h1, _, h3, _⟩ := h.box j t cs ho
      rw [h1] at hb
      simp [blk] at hb
      subst hb
      exact (Array.getElem?_eq_some_iff.1 h3).1
    | vec t e n cs =>
      obtain ⟨_, xs, h1, _⟩ := h.vec j t e n cs ho
      refine (h1.lt b ?_).2
      cases hv : κ j <;> rw [hv] at hb <;> first | (simp [blk] at hb; done) | skip
      · have := h1.2; rw [hv] at this; rcases this with ⟨h, _⟩ | ⟨_, _, _, h, _⟩ <;> cases h
      · rw [blk_slice] at hb; exact hb
      · have := h1.2; rw [hv] at this; rcases this with ⟨h, _⟩ | ⟨_, _, _, h, _⟩ <;> cases h

/-- New blocks, some of them never written again. -/
theorem Rel.grown (h : Rel B D0 w0 D κ s a w) (hg : w.grownBy w' none) (hD : ∀ b, D b → D' b) (hD' : ∀ b, D' b → D b ∨ (w.heap.size ≤ b ∧ b < w'.heap.size)) : Rel B D0 w0 D' κ s a w' := by
  have hDw : ∀ b, D b → w'.heap[b]? = w.heap[b]? := fun b hb => hg.block b (h.rs.dom b hb) (by simp)
  have hB : B ≤ w.heap.size := by rw [h.low]; exact h.below.size
  refine ⟨h.below.grown hg hB (by simp), h.low, fun b hb => hD b (h.grow b hb), fun b hb => ?_, h.defers, h.size, fun t x hx => ⟨(h.env t x hx).1, (h.env t x hx).2.step hD hDw fun k _ => KeyOk.refl _ _ _⟩, ?_⟩
  · rcases hD' b hb with hb | hb
    · exact h.new b hb
    · exact .inr (by omega)
  · refine ⟨fun k t cs hk => ?_, fun k t e n cs hk => ?_, h.rs.inj, fun k b hk hb hDb => ?_, fun b hb => ?_⟩
    · obtain ⟨b, vs, h1, h2, h3, h4, h5⟩ := h.rs.box k t cs hk
      exact ⟨b, vs, h1, h2, by rw [hg.block b (Array.getElem?_eq_some_iff.1 h3).1 (by simp)]; exact h3, h4.imp fun x y _ hxy => hxy.step hD hDw fun k _ => KeyOk.refl _ _ _, h5⟩
    · obtain ⟨h0, xs, h1, h2⟩ := h.rs.vec k t e n cs hk
      exact ⟨h0, xs, h1.kept hg (by cases (κ k).ownBlock <;> simp), h2.imp fun x y _ hxy => hxy.kept hD hDw⟩
    · rcases hD' b hDb with hDb | hDb
      · exact h.rs.apart k b hk hb hDb
      · have := h.rs.lt hk hb; omega
    · rcases hD' b hb with hb | hb
      · exact Nat.lt_of_lt_of_le (h.rs.dom b hb) hg.size
      · exact hb.2

/-- Cells that are trees. -/
def toIVs : List Cell → Option (List IV)
  | [] => some []
  | .im x :: r => (toIVs r).map (x :: ·)
  | .nl :: r => (toIVs r).map (.sl 0 [] :: ·)
  | .ik _ n cs :: r => (toIVs r).map (.sl n cs :: ·)
  | .fn f [] :: r => (toIVs r).map (.fn f [] :: ·)
  | _ => none
theorem toIVs_ok {cs : List Cell} {xs : List IV} (h : toIVs cs = some xs) {vs : List Value} (hv : All2 (RC w D κ σ) cs vs) : All2 (RI w D) xs vs := by
  induction cs generalizing xs vs with
  | nil => obtain rfl := Option.some.inj h; exact ⟨hv.1, by simp⟩
  | cons c r ih =>
    cases vs with
    | nil => simp [All2] at hv
    | cons v vs =>
      have h0 : RC w D κ σ c v := hv.2 0 c v rfl rfl
      have ht : All2 (RC w D κ σ) r vs := ⟨by simpa using hv.1, fun j y z hy hz => hv.2 (j + 1) y z hy hz⟩
      have fin : ∀ {x : IV} {ys : List IV}, RI w D x v → toIVs r = some ys → All2 (RI w D) (x :: ys) (v :: vs) := by
        intro x ys hx hys
        have := ih hys ht
        refine ⟨by simp [this.1], fun j y z hy hz => ?_⟩
        cases j with
        | zero => simp at hy hz; subst hy; subst hz; exact hx
        | succ j => exact this.2 j y z (by simpa using hy) (by simpa using hz)
      unfold toIVs at h
      split at h
      · rename_i heq; cases heq
      · rename_i x r' heq
        obtain ⟨rfl, rfl⟩ := List.cons.inj heq
        obtain ⟨ys, hys, rfl⟩ := Option.map_eq_some_iff.1 h
        cases h0 with | im _ _ h0 => exact fin h0 hys
      · rename_i r' heq
        obtain ⟨rfl, rfl⟩ := List.cons.inj heq
        obtain ⟨ys, hys, rfl⟩ := Option.map_eq_some_iff.1 h
        cases h0; exact fin .slnil hys
      · rename_i c' n' cs' r' heq
        obtain ⟨rfl, rfl⟩ := List.cons.inj heq
        obtain ⟨ys, hys, rfl⟩ := Option.map_eq_some_iff.1 h
        cases h0 with | ik _ _ _ _ h0 => exact fin h0 hys
      · rename_i f r' heq
        obtain ⟨rfl, rfl⟩ := List.cons.inj heq
        obtain ⟨ys, hys, rfl⟩ := Option.map_eq_some_iff.1 h
        cases h0 with
        | fn _ _ vs' hl hc => exact fin (.fn f [] vs' hl (by simp)) hys
      · cases h

/-- The object k is never written again: what is known of it becomes a tree. -/
def Cell.frz (k : Nat) (o : Ob) : Cell → Cell
  | .rf j off => if j = k then (match o with | .box _ cs => (match toIVs cs with | some xs => .im (.pt (xs.drop off)) | none => .bad) | _ => .bad) else .rf j off
  | .rv j len off => if j = k then (match o with | .vec _ _ m cs => if m = len then .im (.pt (cs.drop off)) else .bad | _ => .bad) else .rv j len off
  | .os j n => if j = k then (match o with | .vec _ _ m cs => if m = n then .im (.sl n cs) else .bad | _ => .bad) else .os j n
  | .fn f caps => if hasL k caps then .bad else .fn f caps
  | c => c
def TV.frz (k : Nat) (o : Ob) : TV → TV
  | .c x => .c (x.frz k o)
  | .ag cs => .ag (cs.map (·.frz k o))
  | .tp ts => .tp (ts.map fun
    | .c x => .c (x.frz k o)
    | .ag cs => .ag (cs.map (·.frz k o))
    | .tp ts => .tp ts)
def frzE (k : Nat) (o : Ob) : Env → Env
  | [] => []
  | (t, x) :: r => (t, x.frz k o) :: frzE k o r
def frzS (k : Nat) (o : Ob) : Sto → Sto
  | [] => []
  | (j, .box t cs) :: r => if j = k then frzS k o r else (j, .box t (cs.map (·.frz k o))) :: frzS k o r
  | (j, p) :: r => if j = k then frzS k o r else (j, p) :: frzS k o r
def St.frz (s : St) (k : Nat) : St := match get s.σ k with
  | some o => ⟨s.N, frzE k o s.E, frzS k o s.σ⟩
  | none => s
theorem get_frzE (k : Nat) (o : Ob) (t : Nat) : get (frzE k o E) t = (get E t).map (·.frz k o) := by
  induction E with
  | nil => rfl
  | cons p r ih =>
    obtain ⟨u, x⟩ := p
    simp only [frzE, get_cons, ih]
    split <;> rfl
def frzO (k : Nat) (o : Ob) : Ob → Ob
  | .box t cs => .box t (cs.map (·.frz k o))
  | p => p
theorem get_frzS (k : Nat) (o : Ob) (j : Nat) : get (frzS k o σ) j = if j = k then none else (get σ j).map (frzO k o) := by
  induction σ with
  | nil => simp [frzS, get]
  | cons p r ih =>
    obtain ⟨u, x⟩ := p
    cases x with
    | box t cs =>
      simp only [frzS]
      by_cases hu : u = k
      · subst hu
        rw [if_pos rfl, ih, get_cons]
        by_cases hj : j = u
        · simp [hj]
        · simp [hj]
      · rw [if_neg hu, get_cons, get_cons, ih]
        by_cases hj : j = u
        · subst hj; simp [hu, frzO]
        · simp [hj]
    | vec t e n cs =>
      simp only [frzS]
      by_cases hu : u = k
      · subst hu
        rw [if_pos rfl, ih, get_cons]
        by_cases hj : j = u
        · simp [hj]
        · simp [hj]
      · rw [if_neg hu, get_cons, get_cons, ih]
        by_cases hj : j = u
        · subst hj; simp [hu, frzO]
        · simp [hj]

theorem vec_bounds {v : Value} {t : TypeId} {e n : Nat} {xs : List Value} (h : w.ownsRow B t e v n xs) {ad : Addr} {l c : Nat} (hv : v = .slice (some ad) l c) : l = n ∧ n ≤ c ∧ c ≤ maxLen ∧ ad = ⟨ad.block, 0, none⟩ ∧ ∀ j u, xs[j]? = some u → w.cell? (ad.add j) = some u := by
  have hc := h.cells (g := ad.block) (by rw [hv]; rfl)
  rcases h.2 with ⟨h1, _⟩ | ⟨g, cap, cur, h1, _, _, h4, h5, _⟩
  · rw [h1] at hv; cases hv
  · rw [h1] at hv
    injection hv with q1 q2 q3
    injection q1 with q1
    subst q1; subst q2; subst q3
    exact ⟨rfl, h4, h5, rfl, hc⟩

theorem RC.frz {k : Nat} {o : Ob} (hS : RS w B D κ σ) (hk : get σ k = some o) (hD : ∀ b, D b → D' b) (hDk : ∀ b, blk (κ k) = some b → D' b) {x : Cell} {v : Value} (h : RC w D κ σ x v) :
    RC w D' κ (frzS k o σ) (x.frz k o) v := by
  have hstep : ∀ {y : Cell}, y.has k = false → RC w D κ σ y v → RC w D' κ (frzS k o σ) y v := fun hy hr =>
    hr.step hD (fun _ _ => rfl) fun j hj => by
      have hjk : j ≠ k := has_ne hy hj
      refine ⟨fun _ _ => rfl, fun t e m cs hg => ?_⟩
      rw [get_frzS, if_neg hjk] at hg
      obtain ⟨p, hp, he⟩ := Option.map_eq_some_iff.1 hg
      cases p with
      | box t' cs' => cases he
      | vec t' e' m' cs' => cases he; exact ⟨m, cs, hp, Nat.le_refl _, fun _ => rfl⟩
  cases x with
  | im x => exact hstep rfl h
  | nl => exact hstep rfl h
  | ik => exact hstep rfl h
  | bad => exact .bad v
  | fn f caps =>
    simp only [Cell.frz]
    split
    · exact .bad v
    · rename_i hc
      exact hstep (by simpa [Cell.has] using hc) h
  | rf j off =>
    simp only [Cell.frz]
    split
    · rename_i hj
      subst hj
      cases o with
      | vec => exact .bad v
      | box t cs =>
        simp only
        split
        · rename_i xs hxs
          obtain ⟨b, vs, h1, h2, h3, h4, h5⟩ := hS.box j t cs hk
          have h6 := toIVs_ok hxs h4
          cases h with
          | rf _ _ b' hb' =>
            have : b = b' := by rw [h1] at hb'; simpa using hb'
            subst this
            refine .im _ _ (.pt _ _ (fun i => vs.toList.getD (off + i) undef) (fun _ => hDk b (by rw [h1]; rfl)) (fun i hi => ?_) fun i x hx => ?_)
            · rw [Addr.add_lit, cell_row h3]
              have : off + i < vs.size := by have := h6.1; simp at hi this; omega
              simp [List.getD, this]
            · rw [List.getElem?_drop] at hx
              obtain ⟨u, hu, hr⟩ := h6.get hx
              have : vs.toList.getD (off + i) undef = u := by rw [List.getD, hu]; rfl
              rw [this]
              exact hr.kept hD fun _ _ => rfl
        · exact .bad v
    · rename_i hj; exact hstep (by simpa [Cell.has] using hj) h
  | rv j len off =>
    simp only [Cell.frz]
    split
    · rename_i hj
      subst hj
      cases o with
      | box => exact .bad v
      | vec t e m cs =>
        simp only
        split
        · rename_i hm
          obtain ⟨h0, xs, h1, h2⟩ := hS.vec j t e m cs hk
          cases h with
          | rv _ _ _ ad hh =>
            obtain ⟨_, h3⟩ := hh t e m cs hk
            obtain ⟨b, n, c, hkk, rfl⟩ := h3 hm
            refine .im _ _ (.pt _ _ (fun i => xs.getD (off + i) undef) (fun _ => hDk b (by rw [hkk]; rfl)) (fun i hi => ?_) fun i x hx => ?_)
            · have hl : off + i < xs.length := by have := h2.1; simp at hi; omega
              have := h1.cells (g := b) (by rw [hkk]; rfl) (off + i) xs[off + i] (by simp [hl])
              rw [Addr.add_lit] at this ⊢
              simpa [List.getD, hl] using this
            · rw [List.getElem?_drop] at hx
              obtain ⟨u, hu, hr⟩ := h2.get hx
              have : xs.getD (off + i) undef = u := by rw [List.getD, hu]; rfl
              rw [this]
              exact hr.kept hD fun _ _ => rfl
        · exact .bad v
    · rename_i hj; exact hstep (by simpa [Cell.has] using hj) h
  | os j n =>
    simp only [Cell.frz]
    split
    · rename_i hj
      subst hj
      cases o with
      | box => exact .bad v
      | vec t e m cs =>
        simp only
        split
        · rename_i hm
          subst hm
          obtain ⟨h0, xs, h1, h2⟩ := hS.vec j t e m cs hk
          cases h with
          | os _ _ ad c hh =>
            obtain ⟨_, h3⟩ := hh t e m cs hk
            have hkk := h3 rfl
            cases ad with
            | none =>
              rw [hkk] at h1
              rcases h1.2 with ⟨hv, hm⟩ | ⟨g, cap, cur, hv, _⟩
              · injection hv with _ hv1 hv2
                subst hm; subst hv2
                have hx : xs = [] := List.eq_nil_of_length_eq_zero (by rw [h1.1]; simp)
                have hc : cs = [] := List.eq_nil_of_length_eq_zero (by rw [h2.1, hx]; rfl)
                subst hc
                exact .im _ _ .slnil
              · cases hv
            | some ad =>
              obtain ⟨_, h4, h5, h6, h7⟩ := vec_bounds h1 hkk
              refine .im _ _ (.sl _ _ _ ad (fun i => xs.getD i undef) (fun _ => hDk ad.block (by rw [hkk]; rfl)) h4 h5 (fun i hi => ?_) fun i x hx => ?_)
              · have hl : i < xs.length := by have := h2.1; omega
                have := h7 i xs[i] (by simp [hl])
                simpa [List.getD, hl] using this
              · obtain ⟨u, hu, hr⟩ := h2.get hx
                have : xs.getD i undef = u := by rw [List.getD, hu]; rfl
                rw [this]
                exact hr.kept hD fun _ _ => rfl
        · exact .bad v
    · rename_i hj; exact hstep (by simpa [Cell.has] using hj) h

theorem RT1.frz {k : Nat} {o : Ob} (hS : RS w B D κ σ) (hk : get σ k = some o) (hD : ∀ b, D b → D' b) (hDk : ∀ b, blk (κ k) = some b → D' b) {x : TV} {v : Value} (h : RT1 w D κ σ x v) : RT1 w D' κ (frzS k o σ) (x.frz k o) v := by
  cases x with
  | c x => exact RC.frz hS hk hD hDk h
  | ag cs =>
    obtain ⟨vs, rfl, h1, h2⟩ := h
    refine ⟨vs, rfl, ⟨by simp [h1.1], fun j y z hy hz => ?_⟩, h2⟩
    rw [List.getElem?_map] at hy
    obtain ⟨y', hy', rfl⟩ := Option.map_eq_some_iff.1 hy
    exact RC.frz hS hk hD hDk (h1.2 j y' z hy' hz)
  | tp ts => exact h.elim
theorem RT.frz {k : Nat} {o : Ob} (hS : RS w B D κ σ) (hk : get σ k = some o) (hD : ∀ b, D b → D' b) (hDk : ∀ b, blk (κ k) = some b → D' b) {x : TV} {v : Value} (h : RT w D κ σ x v) : RT w D' κ (frzS k o σ) (x.frz k o) v := by
  cases x with
  | c x => exact RC.frz hS hk hD hDk h
  | ag cs => exact RT1.frz (x := .ag cs) hS hk hD hDk h
  | tp ts =>
    obtain ⟨vs, rfl, h1⟩ := h
    refine ⟨vs, rfl, by simp [h1.1], fun j y z hy hz => ?_⟩
    rw [List.getElem?_map] at hy
    obtain ⟨y', hy', rfl⟩ := Option.map_eq_some_iff.1 hy
    have := h1.2 j y' z hy' hz
    cases y' with
    | c x => exact RC.frz hS hk hD hDk this
    | ag cs => exact RT1.frz (x := .ag cs) hS hk hD hDk this
    | tp ts => exact this.elim

theorem Rel.frz (h : Rel B D0 w0 D κ s a w) (k : Nat) : ∃ D', Rel B D0 w0 D' κ (s.frz k) a w := by
  unfold St.frz
  cases hk : get s.σ k with
  | none => exact ⟨D, h⟩
  | some o =>
    have hsome : (get s.σ k).isSome = true := by rw [hk]; rfl
    have hD : ∀ b, D b → (D b ∨ blk (κ k) = some b) := fun b hb => .inl hb
    have hDk : ∀ b, blk (κ k) = some b → (D b ∨ blk (κ k) = some b) := fun b hb => .inr hb
    refine ⟨fun b => D b ∨ blk (κ k) = some b, h.below, h.low, fun b hb => .inl (h.grow b hb), fun b hb => ?_, h.defers, h.size, fun t x hx => ?_, ?_⟩
    · rcases hb with hb | hb
      · exact h.new b hb
      · refine .inr ?_
        cases o with
        | box t cs =>
          obtain ⟨b', vs, h1, h2, _⟩ := h.rs.box k t cs hk
          rw [h1] at hb; simp [blk] at hb; subst hb; exact h2
        | vec t e n cs =>
          obtain ⟨_, xs, h1, _⟩ := h.rs.vec k t e n cs hk
          refine (h1.lt b ?_).1
          cases hv : κ k <;> rw [hv] at hb <;> first | (simp [blk] at hb; done) | skip
          · have := h1.2; rw [hv] at this; rcases this with ⟨h, _⟩ | ⟨_, _, _, h, _⟩ <;> cases h
          · rw [blk_slice] at hb; exact hb
          · have := h1.2; rw [hv] at this; rcases this with ⟨h, _⟩ | ⟨_, _, _, h, _⟩ <;> cases h
    · simp only at hx
      rw [get_frzE] at hx
      obtain ⟨y, hy, rfl⟩ := Option.map_eq_some_iff.1 hx
      exact ⟨(h.env t y hy).1, (h.env t y hy).2.frz h.rs hk hD hDk⟩
    · have hgs : ∀ j, (get (frzS k o s.σ) j).isSome = true → j ≠ k ∧ (get s.σ j).isSome = true := fun j hj => by
        rw [get_frzS] at hj
        by_cases hjk : j = k
        · simp [hjk] at hj
        · rw [if_neg hjk] at hj; exact ⟨hjk, by simpa using hj⟩
      refine ⟨fun j t cs hj => ?_, fun j t e n cs hj => ?_, fun j j' b hj hj' hb hb' => h.rs.inj j j' b (hgs j hj).2 (hgs j' hj').2 hb hb', fun j b hj hb hDb => ?_, fun b hb => ?_⟩
      · simp only at hj
        rw [get_frzS] at hj
        by_cases hjk : j = k
        · simp [hjk] at hj
        · rw [if_neg hjk] at hj
          obtain ⟨p, hp, he⟩ := Option.map_eq_some_iff.1 hj
          cases p with
          | vec => cases he
          | box t' cs' =>
            injection he with q1 q2
            subst q1; subst q2
            obtain ⟨b, vs, h1, h2, h3, h4, h5⟩ := h.rs.box j _ _ hp
            refine ⟨b, vs, h1, h2, h3, ⟨by simp [h4.1], fun i y z hy hz => ?_⟩, h5⟩
            rw [List.getElem?_map] at hy
            obtain ⟨y', hy', rfl⟩ := Option.map_eq_some_iff.1 hy
            exact RC.frz h.rs hk hD hDk (h4.2 i y' z hy' hz)
      · simp only at hj
        rw [get_frzS] at hj
        by_cases hjk : j = k
        · simp [hjk] at hj
        · rw [if_neg hjk] at hj
          obtain ⟨p, hp, he⟩ := Option.map_eq_some_iff.1 hj
          cases p with
          | box => cases he
          | vec t' e' n' cs' =>
            cases he
            obtain ⟨h0, xs, h1, h2⟩ := h.rs.vec j _ _ _ _ hp
            exact ⟨h0, xs, h1, h2.imp fun x y _ hxy => hxy.kept hD fun _ _ => rfl⟩
      · obtain ⟨hjk, hjs⟩ := hgs j hj
        rcases hDb with hDb | hDb
        · exact h.rs.apart j b hjs hb hDb
        · exact hjk (h.rs.inj j k b hjs hsome hb hDb)
      · rcases hb with hb | hb
        · exact h.rs.dom b hb
        · exact h.rs.lt hsome hb

/-- What a slice's value reads as: how many elements, their cells. -/
def srcOf (σ : Sto) : TV → Option (Nat × List IV)
  | .c .nl => some (0, [])
  | .c (.ik _ m ys) => some (m, ys)
  | .c (.im (.sl m ys)) => some (m, ys)
  | .c (.os k m) => match get σ k with | some (.vec _ _ m' cs) => if m' = m then some (m, cs) else none | _ => none
  | _ => none
theorem srcOf_ok (hS : RS w B D κ σ) {x : TV} {v : Value} {m : Nat} {ys : List IV} (h : srcOf σ x = some (m, ys)) (hx : RT w D κ σ x v) :
    ∃ ad c vs, v = .slice ad m c ∧ All2 (RI w D) ys vs ∧ (ad = none → m = 0 ∧ c = 0 ∧ ys = []) ∧ ∀ b, ad = some b → ∀ j u, vs[j]? = some u → w.cell? (b.add j) = some u := by
  have him : ∀ {v : Value}, RI w D (.sl m ys) v → ∃ ad c vs, v = .slice ad m c ∧ All2 (RI w D) ys vs ∧ (ad = none → m = 0 ∧ c = 0 ∧ ys = []) ∧ ∀ b, ad = some b → ∀ j u, vs[j]? = some u → w.cell? (b.add j) = some u := by
    intro v hx
    cases hx with
    | slnil => exact ⟨none, 0, [], rfl, ⟨rfl, by simp⟩, by simp, by simp⟩
    | sl _ c _ ad vs _ _ _ hc hr =>
      refine ⟨some ad, c, (List.range ys.length).map vs, rfl, ⟨by simp, fun j x y hxj hy => ?_⟩, by simp, fun b hb j u hu => ?_⟩
      · have hj := (List.getElem?_eq_some_iff.1 hxj).1
        have : y = vs j := by simpa [hj] using hy.symm
        subst this
        exact hr j x hxj
      · obtain rfl := Option.some.inj hb
        rw [List.getElem?_map] at hu
        obtain ⟨i, hi, rfl⟩ := Option.map_eq_some_iff.1 hu
        obtain ⟨h1, h2⟩ := List.getElem?_eq_some_iff.1 hi
        simp at h1 h2
        subst h2
        exact hc j h1
  unfold srcOf at h
  split at h
  · obtain ⟨rfl, rfl⟩ := Prod.mk.inj (Option.some.inj h)
    cases hx; exact ⟨none, 0, [], rfl, ⟨rfl, by simp⟩, by simp, by simp⟩
  · obtain ⟨rfl, rfl⟩ := Prod.mk.inj (Option.some.inj h)
    cases hx with | ik _ _ _ _ hx => exact him hx
  · obtain ⟨rfl, rfl⟩ := Prod.mk.inj (Option.some.inj h)
    cases hx with | im _ _ hx => exact him hx
  · rename_i k m'
    split at h
    · rename_i t e m'' cs hk
      split at h
      · rename_i hm
        subst hm
        obtain ⟨rfl, rfl⟩ := Prod.mk.inj (Option.some.inj h)
        obtain ⟨h0, xs, h1, h2⟩ := hS.vec k t e _ _ hk
        cases hx with
        | os _ _ ad c hh =>
          have hkk := (hh t e _ _ hk).2 rfl
          refine ⟨ad, c, xs, rfl, h2, fun hn => ?_, fun b hb => ?_⟩
          · subst hn
            rw [hkk] at h1
            rcases h1.2 with ⟨hv, hm⟩ | ⟨g, cap, cur, hv, _⟩
            · injection hv with _ hv1 hv2
              have hx : xs = [] := List.eq_nil_of_length_eq_zero (by rw [h1.1, hm]; simp)
              exact ⟨hm, hv2, List.eq_nil_of_length_eq_zero (by rw [h2.1, hx]; rfl)⟩
            · cases hv
          · subst hb
            exact (vec_bounds h1 hkk).2.2.2.2
      · cases h
    · cases h
  · cases h

theorem append_blk {P : Program} {t ty e : TypeId} {i : TypeInfo} {z : Value} (ht : P.underlying t = some (.slice e)) (hi : P.info? e = some i) (hz : i.zero = some z) (hzs : z.cells.size = i.size) (hsz : 0 < i.size)
    {v : Value} {n : Nat} {xs : List Value} (hown : w.ownsRow B e i.size v n xs) (ad : Option Addr) (m c : Nat) (news : List Value) (hnil : ad = none → m = 0 ∧ c = 0) (hl : news.length = m * i.size)
    (hnews : ∀ b, ad = some b → ∀ j u, news[j]? = some u → w.cell? (b.add j) = some u) (h1 : ∀ u ∈ news, u.oneCell' = true)
    (h63 : n + m ≤ maxLen) (hbytes : (n + m) * i.bytes ≤ 140737488355328) (hbase : B ≤ w.heap.size) :
    ∃ v' w', (Builtin.append_ #[t, t] ty #[v, .slice ad m c]).run P w = .ok v' w' ∧ w'.ownsRow B e i.size v' (n + m) (xs ++ news) ∧ w.grownBy w' v.ownBlock ∧
      (v' = v ∧ m = 0 ∨ 0 < m) ∧ (∀ b, v'.ownBlock = some b → v.ownBlock = some b ∨ w.heap.size ≤ b) := by
  have key : ∀ v' w', (Builtin.append_ #[t, t] ty #[v, .slice ad m c]).run P w = .ok v' w' → (m = 0 → v' = v) → (∀ b, v'.ownBlock = some b → v.ownBlock = some b ∨ w.heap.size ≤ b) → ∀ v'' w'', (Builtin.append_ #[t, t] ty #[v, .slice ad m c]).run P w = .ok v'' w'' →
      w''.ownsRow B e i.size v'' (n + m) (xs ++ news) → w.grownBy w'' v.ownBlock → ∃ v' w', (Builtin.append_ #[t, t] ty #[v, .slice ad m c]).run P w = .ok v' w' ∧ w'.ownsRow B e i.size v' (n + m) (xs ++ news) ∧ w.grownBy w' v.ownBlock ∧
      (v' = v ∧ m = 0 ∨ 0 < m) ∧ (∀ b, v'.ownBlock = some b → v.ownBlock = some b ∨ w.heap.size ≤ b) := by
    intro v' w' hr hm hb v'' w'' hr' ho hg
    rw [hr] at hr'
    injection hr' with q1 q2
    subst q1; subst q2
    refine ⟨v', w', hr, ho, hg, ?_, hb⟩
    by_cases h0 : m = 0
    · exact .inl ⟨hm h0, h0⟩
    · exact .inr (by omega)
  have hsmall : n + m ≤ 9223372036854775807 := by simp only [maxLen] at h63; omega
  cases ad with
  | none =>
    obtain ⟨rfl, rfl⟩ := hnil rfl
    have hn0 : news = [] := List.eq_nil_of_length_eq_zero (by simpa using hl)
    subst hn0
    refine ⟨v, w, ?_, by simpa using hown, World.grownBy.refl w _, .inl ⟨rfl, rfl⟩, fun b hb => .inl hb⟩
    rcases hown.2 with ⟨rfl, hn⟩ | ⟨g, cap, cur, rfl, hbg, hg, hnc, hcm, hcs, htake⟩
    · simp [Builtin.append_, run_underlying ht, sizeOf, typeInfo, hi, Builtin.lenOf, Builtin.firstCells]
    · simp [Builtin.append_, run_underlying ht, sizeOf, typeInfo, hi, Builtin.lenOf, Builtin.firstCells, hnc, storeCells]
  | some ad =>
    have hnw := hnews ad rfl
    obtain ⟨v'', w'', hr'', ho, hg, _⟩ := run_append_own (P := P) (w := w) B t ty e i z i.size i.bytes ht hi hz rfl rfl hzs hsz v n xs hown ad m c news hl hnw h1 h63 hbytes hbase
    rcases hown.2 with ⟨rfl, hn⟩ | ⟨g, cap, cur, rfl, hbg, hgc, hnc, hcm, hcs, htake⟩
    · by_cases hm : m = 0
      · subst hm
        have hn0 : news = [] := List.eq_nil_of_length_eq_zero (by simpa using hl)
        subst hn0
        refine key (.slice none 0 0) w ?_ (fun _ => rfl) (fun b hb => .inl hb) v'' w'' hr'' ho hg
        simp [Builtin.append_, run_underlying ht, sizeOf, typeInfo, hi, Builtin.lenOf, Builtin.firstCells, loadCells, loadCellsFrom]
      · have hr := run_append_nil (P := P) (ty := ty) w t e i z ht hi hz ad m c news hl hnw (by omega) (by omega) (by have hb := hbytes; rw [hn] at hb; simp only [Nat.zero_add] at hb; omega)
        exact key _ _ hr (fun h => absurd h hm) (fun b hb => .inr (by simp [Value.ownBlock] at hb; omega)) v'' w'' hr'' ho hg
    · by_cases hroom : n + m ≤ cap
      · have hfit : n * i.size + news.length ≤ cur.size := by rw [hl, hcs, ← Nat.add_mul]; exact Nat.mul_le_mul_right _ hroom
        have hr := run_append_room (P := P) (ty := ty) w t e i ht hi g n cap cur hgc ad m c news hl hnw h1 hroom hfit
        refine key _ _ hr (fun h => by subst h; rfl) (fun b hb => .inl (by simpa [Value.ownBlock] using hb)) v'' w'' hr'' ho hg
      · have holds : ∀ j u, xs[j]? = some u → w.cell? ((⟨g, 0, none⟩ : Addr).add j) = some u := hown.cells (g := g) rfl
        have hr := run_append_grow (P := P) (ty := ty) w t e i z ht hi hz ⟨g, 0, none⟩ n cap xs hown.1 holds ad m c news hl hnw (by omega) (by omega) (growslice_fits (by omega) hbytes)
        exact key _ _ hr (fun h => by omega) (fun b hb => .inr (by simp [Value.ownBlock] at hb; omega)) v'' w'' hr'' ho hg
end
end Go.VC
