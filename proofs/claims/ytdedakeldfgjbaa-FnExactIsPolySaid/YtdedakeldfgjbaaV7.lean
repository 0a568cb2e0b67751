/- Arguments as trees; contracts of functions that change nothing that was there. -/
import Derived.Test.YtdedakeldfgjbaaV6
set_option linter.unusedSimpArgs false
set_option linter.unusedVariables false
namespace Go.VC
open Go Go.RowKit
section
variable {w w' : World} {D D' D0 : Nat → Prop} {κ κ' : Nat → Value} {σ : Sto} {E : Env} {a : Act} {B : Nat} {w0 : World} {s : St} {P : Program}

def toIV0 (σ : Sto) : Cell → Option IV
  | .im x => some x
  | .nl => some (.sl 0 [])
  | .ik _ n cs => some (.sl n cs)
  | .os k n => match get σ k with | some (.vec _ _ m cs) => if m = n then some (.sl n cs) else none | _ => none
  | .rv k len off => match get σ k with | some (.vec _ _ m cs) => if m = len then some (.pt (cs.drop off)) else none | _ => none
  | .fn f [] => some (.fn f [])
  | _ => none
def toIVB (σ : Sto) : List Cell → Option (List IV)
  | [] => some []
  | c :: r => (toIV0 σ c).bind fun x => (toIVB σ r).map (x :: ·)
mutual
/-- A cell as a tree. -/
def toIV (σ : Sto) : Cell → Option IV
  | .im x => some x
  | .nl => some (.sl 0 [])
  | .ik _ n cs => some (.sl n cs)
  | .os k n => toIV0 σ (.os k n)
  | .rv k len off => toIV0 σ (.rv k len off)
  | .rf k off => match get σ k with | some (.box _ cs) => (toIVB σ cs).map fun xs => .pt (xs.drop off) | _ => none
  | .fn f caps => (toIVL σ caps).map (.fn f ·)
  | .bad => none
def toIVL (σ : Sto) : List Cell → Option (List IV)
  | [] => some []
  | c :: r => (toIV σ c).bind fun x => (toIVL σ r).map (x :: ·)
end
/-- With the blocks of the call's own. -/
def withOwn (D : Nat → Prop) (κ : Nat → Value) (σ : Sto) (b : Nat) : Prop := D b ∨ ∃ k, (get σ k).isSome = true ∧ blk (κ k) = some b

theorem toIV0_ok (hS : RS w B D κ σ) {x : Cell} {y : IV} {v : Value} (h : toIV0 σ x = some y) (hx : RC w D κ σ x v) : RI w (withOwn D κ σ) y v := by
  unfold toIV0 at h
  split at h
  · obtain rfl := Option.some.inj h
    cases hx with | im _ _ hx => exact hx.kept (fun _ h => .inl h) fun _ _ => rfl
  · obtain rfl := Option.some.inj h
    cases hx; exact .slnil
  · obtain rfl := Option.some.inj h
    cases hx with | ik _ _ _ _ hx => exact hx.kept (fun _ h => .inl h) fun _ _ => rfl
  · rename_i k n
    cases hk : get σ k with
    | none => simp [hk] at h
    | some o =>
      have := RC.frz (D' := withOwn D κ σ) hS hk (fun _ h => .inl h) (fun b hb => .inr ⟨k, by rw [hk]; rfl, hb⟩) hx
      cases o with
      | box => simp [hk] at h
      | vec t e m cs =>
        simp only [hk] at h
        simp only [Cell.frz, if_true] at this
        split at h
        · rename_i hm
          obtain rfl := Option.some.inj h
          rw [if_pos hm] at this
          cases this with | im _ _ h => exact h
        · cases h
  · rename_i k len off
    cases hk : get σ k with
    | none => simp [hk] at h
    | some o =>
      have := RC.frz (D' := withOwn D κ σ) hS hk (fun _ h => .inl h) (fun b hb => .inr ⟨k, by rw [hk]; rfl, hb⟩) hx
      cases o with
      | box => simp [hk] at h
      | vec t e m cs =>
        simp only [hk] at h
        simp only [Cell.frz, if_true] at this
        split at h
        · rename_i hm
          obtain rfl := Option.some.inj h
          rw [if_pos hm] at this
          cases this with | im _ _ h => exact h
        · cases h
  · obtain rfl := Option.some.inj h
    cases hx with | fn _ _ vs hl hc => exact .fn _ [] vs hl (by simp)
  · cases h
theorem toIVB_ok (hS : RS w B D κ σ) : ∀ {cs : List Cell} {xs : List IV} {vs : List Value}, toIVB σ cs = some xs → All2 (RC w D κ σ) cs vs → All2 (RI w (withOwn D κ σ)) xs vs
  | [], xs, vs, h, hv => by obtain rfl := Option.some.inj h; exact ⟨hv.1, by simp⟩
  | c :: r, xs, [], h, hv => by simp [All2] at hv
  | c :: r, xs, v :: vs, h, hv => by
    simp only [toIVB] at h
    obtain ⟨x, hx, h⟩ := Option.bind_eq_some_iff.1 h
    obtain ⟨ys, hys, rfl⟩ := Option.map_eq_some_iff.1 h
    have h0 := toIV0_ok hS hx (hv.2 0 c v rfl rfl)
    have h1 := toIVB_ok hS hys (vs := vs) ⟨by simpa using hv.1, fun j y z hy hz => hv.2 (j + 1) y z hy hz⟩
    refine ⟨by simp [h1.1], fun j y z hy hz => ?_⟩
    cases j with
    | zero => simp at hy hz; subst hy; subst hz; exact h0
    | succ j => exact h1.2 j y z (by simpa using hy) (by simpa using hz)
theorem toIVL_get : ∀ {cs : List Cell} {xs : List IV}, toIVL σ cs = some xs → xs.length = cs.length ∧ ∀ (j : Nat) (x : IV), xs[j]? = some x → ∃ c, cs[j]? = some c ∧ toIV σ c = some x
  | [], xs, h => by simp [toIVL] at h; subst h; simp
  | c :: r, xs, h => by
    simp only [toIVL] at h
    obtain ⟨x, hx, h⟩ := Option.bind_eq_some_iff.1 h
    obtain ⟨ys, hys, rfl⟩ := Option.map_eq_some_iff.1 h
    obtain ⟨h1, h2⟩ := toIVL_get hys
    refine ⟨by simp [h1], fun j y hy => ?_⟩
    cases j with
    | zero => simp at hy; subst hy; exact ⟨c, rfl, hx⟩
    | succ j => simpa using h2 j y (by simpa using hy)
theorem toIV_ok (hS : RS w B D κ σ) {x : Cell} {v : Value} (hx : RC w D κ σ x v) : ∀ {y : IV}, toIV σ x = some y → RI w (withOwn D κ σ) y v := by
  induction hx with
  | im x v hx => intro y h; simp only [toIV] at h; obtain rfl := Option.some.inj h; exact hx.kept (fun _ h => .inl h) fun _ _ => rfl
  | nl => intro y h; simp only [toIV] at h; obtain rfl := Option.some.inj h; exact .slnil
  | ik c n cs ad hx => intro y h; simp only [toIV] at h; obtain rfl := Option.some.inj h; exact hx.kept (fun _ h => .inl h) fun _ _ => rfl
  | os k n ad c hx => intro y h; simp only [toIV] at h; exact toIV0_ok hS h (.os k n ad c hx)
  | rv k len off ad hx => intro y h; simp only [toIV] at h; exact toIV0_ok hS h (.rv k len off ad hx)
  | rf k off b hb =>
    intro y h
    simp only [toIV] at h
    split at h
    · rename_i t cs hk
      obtain ⟨xs, hxs, rfl⟩ := Option.map_eq_some_iff.1 h
      obtain ⟨b', vs, h1, h2, h3, h4, h5⟩ := hS.box k t cs hk
      have : b' = b := by rw [h1] at hb; simpa using hb
      subst this
      have h6 := toIVB_ok hS hxs h4
      refine .pt _ _ (fun i => vs.toList.getD (off + i) undef) (fun _ => .inr ⟨k, by rw [hk]; rfl, by rw [h1]; rfl⟩) (fun i hi => ?_) fun i x hx => ?_
      · rw [Addr.add_lit, cell_row h3]
        have : off + i < vs.size := by have := h6.1; simp at hi this; omega
        simp [List.getD, this]
      · rw [List.getElem?_drop] at hx
        obtain ⟨u, hu, hr⟩ := h6.get hx
        have : vs.toList.getD (off + i) undef = u := by rw [List.getD, hu]; rfl
        rw [this]; exact hr
    · cases h
  | fn f caps vs hl hc ih =>
    intro y h
    simp only [toIV] at h
    obtain ⟨xs, hxs, rfl⟩ := Option.map_eq_some_iff.1 h
    obtain ⟨h1, h2⟩ := toIVL_get hxs
    refine .fn f xs vs (by omega) fun j x hj => ?_
    obtain ⟨c, hcj, hci⟩ := h2 j x hj
    exact ih j c hcj hci
  | bad v => intro y h; simp [toIV] at h

/-- A value as a tree. -/
def argT (σ : Sto) : TV → Option TV
  | .c x => (toIV σ x).map fun y => .c (.im y)
  | .ag cs => (toIVL σ cs).map fun ys => .ag (ys.map .im)
  | .tp _ => none
def argTs (σ : Sto) : List TV → Option (List TV)
  | [] => some []
  | x :: r => (argT σ x).bind fun y => (argTs σ r).map (y :: ·)
/-- The words for trees: no object. -/
def nok : Nat → Value := fun _ => undef
abbrev RP (w : World) (D : Nat → Prop) : TV → Value → Prop := RT w D nok []
theorem argT_ok (hS : RS w B D κ σ) {x y : TV} {v : Value} (h : argT σ x = some y) (hx : RT w D κ σ x v) : RT1 w (withOwn D κ σ) nok [] y v := by
  cases x with
  | c x =>
    obtain ⟨z, hz, rfl⟩ := Option.map_eq_some_iff.1 h
    exact .im _ _ (toIV_ok hS hx hz)
  | ag cs =>
    obtain ⟨zs, hzs, rfl⟩ := Option.map_eq_some_iff.1 h
    obtain ⟨vs, rfl, h1, h2⟩ := hx
    obtain ⟨h3, h4⟩ := toIVL_get hzs
    refine ⟨vs, rfl, ⟨by simp [h3, h1.1], fun j y z hy hz => ?_⟩, h2⟩
    rw [List.getElem?_map] at hy
    obtain ⟨y', hy', rfl⟩ := Option.map_eq_some_iff.1 hy
    obtain ⟨c, hc, hci⟩ := h4 j y' hy'
    exact .im _ _ (toIV_ok hS (h1.2 j c z hc hz) hci)
  | tp ts => cases h
theorem argTs_ok (hS : RS w B D κ σ) : ∀ {xs ys : List TV} {vs : List Value}, argTs σ xs = some ys → All2 (RT w D κ σ) xs vs → All2 (RP w (withOwn D κ σ)) ys vs
  | [], ys, vs, h, hv => by obtain rfl := Option.some.inj h; exact ⟨hv.1, by simp⟩
  | c :: r, ys, [], h, hv => by simp [All2] at hv
  | c :: r, ys, v :: vs, h, hv => by
    simp only [argTs] at h
    obtain ⟨x, hx, h⟩ := Option.bind_eq_some_iff.1 h
    obtain ⟨zs, hys, rfl⟩ := Option.map_eq_some_iff.1 h
    have h0 := RT_of_RT1 (argT_ok hS hx (hv.2 0 c v rfl rfl))
    have h1 := argTs_ok hS hys (vs := vs) ⟨by simpa using hv.1, fun j y z hy hz => hv.2 (j + 1) y z hy hz⟩
    refine ⟨by simp [h1.1], fun j y z hy hz => ?_⟩
    cases j with
    | zero => simp at hy hz; subst hy; subst hz; exact h0
    | succ j => exact h1.2 j y z (by simpa using hy) (by simpa using hz)

/-- **The contract of a function that changes nothing that was there**: on these trees it returns this one. -/
def FnP (P : Program) (g : FuncId) (args : List TV) (r : TV) : Prop :=
  ∀ (w : World) (D : Nat → Prop) (vs : List Value), (∀ b, D b → b < w.heap.size) → All2 (RP w D) args vs →
    Calls P g vs.toArray w fun e w' => ∃ v, e = .returned v ∧ Below w.heap.size w w' ∧ RP w' (fun b => D b ∨ (w.heap.size ≤ b ∧ b < w'.heap.size)) r v

/-- Trees alone. -/
def imL : List Cell → Bool
  | [] => true
  | .im _ :: r => imL r
  | _ => false
def im1 : TV → Bool
  | .c (.im _) => true
  | .ag cs => imL cs
  | _ => false
def imT : TV → Bool
  | .tp ts => ts.all im1
  | x => im1 x
/-- Scalars alone. -/
def scL : List Cell → Bool
  | [] => true
  | .im (.sc _) :: r => scL r
  | _ => false
def sc1 : TV → Bool
  | .c (.im (.sc _)) => true
  | .ag cs => scL cs
  | _ => false
def scT : TV → Bool
  | .tp ts => ts.all sc1
  | x => sc1 x
theorem imL_has {cs : List Cell} (h : imL cs = true) (k : Nat) : hasL k cs = false := by
  induction cs with
  | nil => rfl
  | cons c r ih => cases c <;> simp [imL] at h; simp [hasL, Cell.has, ih h]
theorem imT_has {x : TV} (h : imT x = true) (k : Nat) : x.has k = false := by
  cases x with
  | c x => cases x <;> simp [imT, im1] at h; rfl
  | ag cs => exact imL_has h k
  | tp ts =>
    simp only [TV.has, List.any_eq_false]
    intro y hy
    have := List.all_eq_true.1 h y hy
    cases y with
    | c x => cases x <;> simp [im1] at this; simp [Cell.has]
    | ag cs => simp [imL_has this k]
    | tp ts => simp
theorem imT_step {x : TV} {v : Value} (h : imT x = true) (hD : ∀ b, D b → D' b) (hw : ∀ b, D b → w'.heap[b]? = w.heap[b]?) (hx : RT w D κ σ x v) {κ' : Nat → Value} {σ' : Sto} : RT w' D' κ' σ' x v :=
  hx.step hD hw fun k hk => by rw [imT_has h k] at hk; cases hk
theorem RI_sc {x : IV} {v : Value} (h : RI w D x v) (hs : ∃ u, x = .sc u) : RI w' D' x v := by
  obtain ⟨u, rfl⟩ := hs
  cases h with | sc _ h => exact .sc _ h
theorem scL_ok {cs : List Cell} (h : scL cs = true) {j : Nat} {c : Cell} (hc : cs[j]? = some c) : ∃ x, c = .im x ∧ ∃ u, x = .sc u := by
  induction cs generalizing j with
  | nil => cases hc
  | cons d r ih =>
    cases j with
    | zero =>
      simp at hc; subst hc
      unfold scL at h
      split at h
      · rename_i heq; cases heq
      · rename_i heq; injection heq with q _; subst q; exact ⟨_, rfl, ⟨_, rfl⟩⟩
      · cases h
    | succ j =>
      simp at hc
      unfold scL at h
      split at h
      · rename_i heq; cases heq
      · rename_i heq; injection heq with _ q; subst q; exact ih h hc
      · cases h
theorem sc1_ok {x : TV} {v : Value} (h : sc1 x = true) (hx : RT1 w D κ σ x v) : RT1 w' D' κ' σ x v := by
  unfold sc1 at h
  split at h
  · cases hx with | im _ _ hx => exact .im _ _ (RI_sc hx ⟨_, rfl⟩)
  · obtain ⟨vs, rfl, h1, h2⟩ := hx
    refine ⟨vs, rfl, ⟨h1.1, fun j y z hy hz => ?_⟩, h2⟩
    obtain ⟨x, rfl, hs⟩ := scL_ok h hy
    have := h1.2 j _ z hy hz
    cases this with | im _ _ hx => exact .im _ _ (RI_sc hx hs)
  · cases h
theorem scT_ok {x : TV} {v : Value} (h : scT x = true) (hx : RT w D κ σ x v) : RT w' D' κ' σ x v := by
  cases x with
  | c x => exact sc1_ok (x := .c x) h hx
  | ag cs => exact sc1_ok (x := .ag cs) h hx
  | tp ts =>
    obtain ⟨vs, rfl, h1⟩ := hx
    exact ⟨vs, rfl, h1.1, fun j y z hy hz => sc1_ok (List.all_eq_true.1 h y (List.mem_of_getElem? hy)) (h1.2 j y z hy hz)⟩
end
end Go.VC
