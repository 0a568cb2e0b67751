/- What is handed over; contracts of functions. -/
import Derived.Test.YtiohpbhdonlonaaW7
set_option linter.unusedSimpArgs false
set_option linter.unusedVariables false
namespace Go.VC
open Go Go.RowKit
section
variable {β : Base} {w w' : World} {ω ω' : Lab} {κ κ' : Nat → Value} {σ σ' : Sto} {E : Env} {a : Act} {s : St} {P : Program}

mutual
def Cell.keys : Cell → List Nat
  | .rf k _ => [k]
  | .rv k _ _ => [k]
  | .os k _ => [k]
  | .ov k _ _ _ => [k]
  | .ns k _ => [k]
  | .mp k => [k]
  | .fn _ caps => keysL caps
  | _ => []
def keysL : List Cell → List Nat
  | [] => []
  | c :: r => c.keys ++ keysL r
end
def TV.keys : TV → List Nat
  | .c x => x.keys
  | .ag cs => keysL cs
  | .tp ts => ts.flatMap fun
    | .c x => x.keys
    | .ag cs => keysL cs
    | .tp _ => []
mutual
theorem has_keys (k : Nat) : ∀ (x : Cell), x.has k = true → k ∈ x.keys
  | .rf j _, h | .rv j _ _, h | .os j _, h | .ov j _ _ _, h | .ns j _, h | .mp j, h => by
    simp [Cell.has] at h; simp [Cell.keys, h]
  | .fn _ caps, h => hasL_keys k caps h
  | .im _, h | .nl, h | .ik _ _ _, h | .bad, h => by cases h
theorem hasL_keys (k : Nat) : ∀ (l : List Cell), hasL k l = true → k ∈ keysL l
  | [], h => by cases h
  | c :: r, h => by
    simp only [hasL, Bool.or_eq_true] at h
    simp only [keysL, List.mem_append]
    rcases h with h | h
    · exact .inl (has_keys k c h)
    · exact .inr (hasL_keys k r h)
end
theorem hasT_keys (k : Nat) (x : TV) (h : x.has k = true) : k ∈ x.keys := by
  cases x with
  | c x => exact has_keys k x h
  | ag cs => exact hasL_keys k cs h
  | tp ts =>
    simp only [TV.has, List.any_eq_true] at h
    obtain ⟨y, hy, h⟩ := h
    simp only [TV.keys, List.mem_flatMap]
    refine ⟨y, hy, ?_⟩
    cases y with
    | c x => exact has_keys k x h
    | ag cs => exact hasL_keys k cs h
    | tp ts => cases h

/-- The object k, and what it leads to, is never written again. -/
def St.frzD (s : St) (k : Nat) : St := match get s.σ k with
  | some (.box _ cs) => ((keysL cs).foldl St.frz s).frz k
  | _ => s.frz k
def St.frzAll (s : St) (ks : List Nat) : St := ks.foldl St.frzD s
theorem foldl_frz (ks : List Nat) : ∀ {s : St} {ω : Lab}, Rel β ω κ s a w → ∃ ω', Rel β ω' κ (ks.foldl St.frz s) a w := by
  induction ks with
  | nil => intro s ω h; exact ⟨ω, h⟩
  | cons k r ih => intro s ω h; obtain ⟨D1, h1⟩ := h.frz k; exact ih h1
theorem Rel.frzD (h : Rel β ω κ s a w) (k : Nat) : ∃ ω', Rel β ω' κ (s.frzD k) a w := by
  unfold St.frzD
  split
  · obtain ⟨D1, h1⟩ := foldl_frz _ h; exact h1.frz k
  · exact h.frz k
theorem Rel.frzAll (ks : List Nat) : ∀ {s : St} {ω : Lab}, Rel β ω κ s a w → ∃ ω', Rel β ω' κ (s.frzAll ks) a w := by
  induction ks with
  | nil => intro s ω h; exact ⟨ω, h⟩
  | cons k r ih => intro s ω h; obtain ⟨D1, h1⟩ := h.frzD k; exact ih h1

def opsT (E : Env) : List Operand → Option (List TV)
  | [] => some []
  | x :: r => (opd E x).bind fun y => (opsT E r).map (y :: ·)
theorem opsT_ok (hE : EnvOk w ω κ σ E a.tmps) : ∀ {xs : List Operand} {ys : List TV}, opsT E xs = some ys → All2 (RT w ω κ σ) ys (xs.map a.eval)
  | [], ys, h => by obtain rfl := Option.some.inj h; exact ⟨rfl, by simp⟩
  | x :: r, ys, h => by
    simp only [opsT] at h
    obtain ⟨y, hy, h⟩ := Option.bind_eq_some_iff.1 h
    obtain ⟨zs, hz, rfl⟩ := Option.map_eq_some_iff.1 h
    exact .cons (opd_ok hE hy) (opsT_ok hE hz)

/-- **A function's contract**: the objects that it is handed over, its arguments; the objects, the result behind the call. -/
def FnS (P : Program) (g : FuncId) (σ0 : Sto) (args : List TV) (σ1 : Sto) (r : TV) : Prop :=
  ∀ (w : World) (ω : Lab) (κ : Nat → Value) (vs : List Value), RS w ω κ σ0 → (∀ b k, ω b = .ob k → (get σ0 k).isSome = true) → All2 (RT w ω κ σ0) args vs →
    Calls P g vs.toArray w fun e w' => ∃ v ω' κ', e = .returned v ∧ Turn w ω w' ω' ∧ RS w' ω' κ' σ1 ∧ RT w' ω' κ' σ1 r v ∧ ∀ k, (get σ0 k).isSome = true → KeyOk κ σ0 κ' σ1 k
abbrev FnP (P : Program) (g : FuncId) (args : List TV) (r : TV) : Prop := FnS P g [] args [] r

/-! Objects as trees, for reading. -/
/-- A cell as a tree, the objects in it read as they stand. -/
def toIV0 (σ : Sto) : Cell → Option IV
  | .im x => some x
  | .nl => some (.sl 0 [])
  | .ik _ n cs => some (.sl n cs)
  | .os k n => match get σ k with | some o => if o.len? = some n then some (.sl n o.cells) else none | none => none
  | .ov k n off m => match get σ k with | some o => if o.len? = some n then some (.sl m ((o.cells.drop off).take (m * o.esz))) else none | none => none
  | .rv k len off => match get σ k with | some o => if o.len? = some len then some (.pt (o.cells.drop off)) else none | none => none
  | .ns k j => match get σ k with | some o => if o.len?.isSome then o.cells[j]? else none | none => none
  | _ => none
def toIVB (σ : Sto) : List Cell → Option (List IV)
  | [] => some []
  | c :: r => (toIV0 σ c).bind fun x => (toIVB σ r).map (x :: ·)
mutual
def toIV (σ : Sto) : Cell → Option IV
  | .rf k off => match get σ k with | some (.box _ cs) => (toIVB σ cs).map fun xs => .pt (xs.drop off) | _ => none
  | .fn f caps => (toIVL σ caps).map fun xs => .fn f xs
  | c => toIV0 σ c
def toIVL (σ : Sto) : List Cell → Option (List IV)
  | [] => some []
  | c :: r => (toIV σ c).bind fun x => (toIVL σ r).map (x :: ·)
end
/-- Every object's blocks are all's. -/
def allIm (ω : Lab) : Lab := fun b => match ω b with | .ob _ => .im | l => l
theorem allIm_im {ω : Lab} {b : Nat} (h : ω b = .im) : allIm ω b = .im := by unfold allIm; rw [h]
theorem allIm_ob {ω : Lab} {b k : Nat} (h : ω b = .ob k) : allIm ω b = .im := by unfold allIm; rw [h]
theorem toIV0_ok (hS : RS w ω κ σ) {x : Cell} {y : IV} {v : Value} (h : toIV0 σ x = some y) (hx : RC w ω κ σ x v) : RI w (allIm ω) y v := by
  have hRI : ∀ k o n, get σ k = some o → o.len? = some n → RI w (allIm ω) (.sl n o.cells) (κ k) := fun k o n hk hm => ob_RI (hS.ob k o hk) hm (fun b hb => allIm_im hb) fun b hb => allIm_ob hb
  have hkp : ∀ {y : IV} {v : Value}, RI w ω y v → RI w (allIm ω) y v := fun h => h.kept fun b hb => ⟨allIm_im hb, rfl⟩
  unfold toIV0 at h
  split at h
  · obtain rfl := Option.some.inj h; cases hx with | im _ _ hx => exact hkp hx
  · obtain rfl := Option.some.inj h; cases hx; exact .slnil
  · obtain rfl := Option.some.inj h; cases hx with | ik _ _ _ _ hx => exact hkp hx
  · split at h
    · rename_i o hk
      split at h
      · rename_i hm
        obtain rfl := Option.some.inj h
        cases hx with
        | os _ _ ad c _ _ hh =>
          have := hRI _ o _ hk hm
          rw [(hh o _ hk hm).2 rfl] at this; exact this
      · cases h
    · cases h
  · split at h
    · rename_i o hk
      split at h
      · rename_i hm
        obtain rfl := Option.some.inj h
        cases hx with
        | ov _ _ _ _ ad c hmc _ hh => exact RI_ov (hRI _ o _ hk hm) hmc ((hh o _ hk hm).2 rfl)
      · cases h
    · cases h
  · split at h
    · rename_i o hk
      split at h
      · rename_i hm
        obtain rfl := Option.some.inj h
        cases hx with
        | rv _ _ _ ad hh =>
          obtain ⟨b, n, c, hkk, rfl⟩ := (hh o _ hk hm).2 rfl
          have := hRI _ o _ hk hm
          rw [hkk] at this
          obtain rfl := RI_len this
          exact RI_pt this
      · cases h
    · cases h
  · rename_i k j
    split at h
    · rename_i o hk
      split at h
      · rename_i hl
        obtain ⟨m, hm⟩ := Option.isSome_iff_exists.1 hl
        cases hx with
        | ns _ _ _ hh =>
          obtain ⟨b, n, c, hkk, hc, hcell⟩ := hh o m hk hm
          have := hRI _ o _ hk hm
          rw [hkk] at this
          obtain rfl := RI_len this
          generalize o.cells = cs at h this
          cases this with
          | sl _ _ _ a vs hd hn hm' hce hr =>
            have h1 := hce j (List.getElem?_eq_some_iff.1 h).1
            rw [addr_add_lit, hcell] at h1
            have h2 := hr j y h
            rw [← Option.some.inj h1] at h2
            exact h2
      · cases h
    · cases h
  · cases h
theorem toIVB_ok (hS : RS w ω κ σ) : ∀ {cs : List Cell} {xs : List IV} {vs : List Value}, toIVB σ cs = some xs → All2 (RC w ω κ σ) cs vs → All2 (RI w (allIm ω)) xs vs
  | [], xs, vs, h, hv => by obtain rfl := Option.some.inj h; exact ⟨hv.1, by simp⟩
  | c :: r, xs, [], h, hv => by simp [All2] at hv
  | c :: r, xs, v :: vs, h, hv => by
    simp only [toIVB] at h
    obtain ⟨x, hx, h⟩ := Option.bind_eq_some_iff.1 h
    obtain ⟨ys, hy, rfl⟩ := Option.map_eq_some_iff.1 h
    exact .cons (toIV0_ok hS hx hv.head) (toIVB_ok hS hy hv.tail)
theorem toIVL_get : ∀ {cs : List Cell} {xs : List IV}, toIVL σ cs = some xs → xs.length = cs.length ∧ ∀ (j : Nat) (x : IV), xs[j]? = some x → ∃ c, cs[j]? = some c ∧ toIV σ c = some x
  | [], xs, h => by simp [toIVL] at h; subst h; simp
  | c :: r, xs, h => by
    simp only [toIVL] at h
    obtain ⟨x, hx, h⟩ := Option.bind_eq_some_iff.1 h
    obtain ⟨ys, hy, rfl⟩ := Option.map_eq_some_iff.1 h
    obtain ⟨h1, h2⟩ := toIVL_get hy
    refine ⟨by simp [h1], fun j z hz => ?_⟩
    cases j with
    | zero => simp at hz; subst hz; exact ⟨c, rfl, hx⟩
    | succ j => simpa using h2 j z (by simpa using hz)
theorem toIV_ok (hS : RS w ω κ σ) {x : Cell} {v : Value} (hx : RC w ω κ σ x v) : ∀ {y : IV}, toIV σ x = some y → RI w (allIm ω) y v := by
  induction hx with
  | rf k off b hb =>
    intro y h
    simp only [toIV] at h
    split at h
    · rename_i t cs hk
      obtain ⟨xs, hxs, rfl⟩ := Option.map_eq_some_iff.1 h
      obtain ⟨b', vs, h1, h2, h3, h4, h5, _⟩ := hS.ob k _ hk
      have : b = b' := by rw [h1] at hb; simpa using hb.symm
      subst this
      have h6 := toIVB_ok hS hxs h4
      refine .pt _ _ (fun i => vs.toList.getD (off + i) undef) (fun _ => allIm_ob h2) (fun i hi => ?_) fun i x hx => ?_
      · rw [Addr.add_lit, cell_row h3]
        have : off + i < vs.size := by have := h6.1; simp at hi this; omega
        simp [List.getD, this]
      · rw [List.getElem?_drop] at hx
        obtain ⟨u, hu, hr⟩ := h6.get hx
        have : vs.toList.getD (off + i) undef = u := by rw [List.getD, hu]; rfl
        rw [this]; exact hr
    · cases h
  | fn f caps vs hl hc ih =>
    intro y h
    simp only [toIV] at h
    obtain ⟨xs, hxs, rfl⟩ := Option.map_eq_some_iff.1 h
    obtain ⟨h1, h2⟩ := toIVL_get hxs
    refine .fn f xs vs (by rw [hl, h1]) fun j x hx => ?_
    obtain ⟨c, hc', hx'⟩ := h2 j x hx
    exact ih j c hc' hx'
  | im x v hx => intro y h; simp only [toIV] at h; exact toIV0_ok hS h (.im x v hx)
  | nl => intro y h; simp only [toIV] at h; exact toIV0_ok hS h .nl
  | ik c n cs a hx => intro y h; simp only [toIV] at h; exact toIV0_ok hS h (.ik c n cs a hx)
  | rv k len off a hh => intro y h; simp only [toIV] at h; exact toIV0_ok hS h (.rv k len off a hh)
  | os k n a c h1 h2 hh => intro y h; simp only [toIV] at h; exact toIV0_ok hS h (.os k n a c h1 h2 hh)
  | ov k n off m a c h1 h2 hh => intro y h; simp only [toIV] at h; exact toIV0_ok hS h (.ov k n off m a c h1 h2 hh)
  | ns k j v hh => intro y h; simp only [toIV] at h; exact toIV0_ok hS h (.ns k j v hh)
  | mp => intro y h; simp [toIV, toIV0] at h
  | bad => intro y h; simp [toIV, toIV0] at h

/-- Scalars, and what leads to objects alone: nothing that is all's. -/
def pureC : Cell → Bool
  | .im (.sc _) | .nl | .rf _ _ | .rv _ _ _ | .os _ _ | .ov _ _ _ _ | .mp _ => true
  | _ => false
def pureL : List Cell → Bool
  | [] => true
  | c :: r => pureC c && pureL r
def pureT1 : TV → Bool
  | .c x => pureC x
  | .ag cs => pureL cs
  | .tp _ => false
def pureT : TV → Bool
  | .tp ts => ts.all pureT1
  | x => pureT1 x
def pureS : Sto → Bool
  | [] => true
  | (_, .box _ cs) :: r => pureL cs && pureS r
  | (_, .vec _ _ _ _ own) :: r => own && pureS r
  | (_, .row _ _) :: r => pureS r
theorem pureL_mem {cs : List Cell} (h : pureL cs = true) : ∀ c ∈ cs, pureC c = true := by
  induction cs with
  | nil => simp
  | cons c r ih =>
    simp only [pureL, Bool.and_eq_true] at h
    intro d hd
    rcases List.mem_cons.1 hd with rfl | hd
    · exact h.1
    · exact ih h.2 d hd
theorem pureS_get {σ : Sto} (h : pureS σ = true) {k : Nat} {o : Ob} (hg : get σ k = some o) : (∀ t cs, o = .box t cs → pureL cs = true) ∧ ∀ t e n cs own, o = .vec t e n cs own → own = true := by
  induction σ with
  | nil => cases hg
  | cons p r ih =>
    obtain ⟨j, q⟩ := p
    rw [get_cons] at hg
    cases q with
    | box t cs =>
      simp only [pureS, Bool.and_eq_true] at h
      split at hg
      · injection hg with hg; subst hg
        refine ⟨fun t' cs' e => ?_, fun t' e' n' cs' own' e => ?_⟩
        · injection e with _ q2; subst q2; exact h.1
        · cases e
      · exact ih h.2 hg
    | vec t e n cs own =>
      simp only [pureS, Bool.and_eq_true] at h
      split at hg
      · injection hg with hg; subst hg
        refine ⟨fun t' cs' e => ?_, fun t' e' n' cs' own' e => ?_⟩
        · cases e
        · injection e with _ _ _ _ q; subst q; exact h.1
      · exact ih h.2 hg
    | row n cs =>
      simp only [pureS] at h
      split at hg
      · injection hg with hg; subst hg
        refine ⟨fun t' cs' e => ?_, fun t' e' n' cs' own' e => ?_⟩
        · cases e
        · cases e
      · exact ih h hg
theorem RI_sc {x : IV} {v : Value} (h : RI w ω x v) (hs : ∃ u, x = .sc u) : RI w' ω' x v := by
  obtain ⟨u, rfl⟩ := hs
  cases h with | sc _ h => exact .sc _ h
theorem RC.stepP {x : Cell} {v : Value} (h : RC w ω κ σ x v) (hp : pureC x = true) (hk : ∀ k, x.has k = true → KeyOk κ σ κ' σ' k) : RC w' ω' κ' σ' x v := by
  cases h with
  | im x v h =>
    cases x with
    | sc u => exact .im _ _ (RI_sc h ⟨u, rfl⟩)
    | _ => cases hp
  | nl => exact .nl
  | ik => cases hp
  | fn => cases hp
  | ns => cases hp
  | bad => cases hp
  | rf k off b h =>
    have := (hk k (by simp [Cell.has])).1 (by rw [h]; rfl)
    exact .rf k off b (this.trans h)
  | mp k r h =>
    have := (hk k (by simp [Cell.has])).1 (by rw [h]; rfl)
    exact .mp k r (this.trans h)
  | rv k len off a h =>
    refine .rv k len off a fun o' m' hg hm => ?_
    obtain ⟨o, m, h1, h2, h3, h4⟩ := (hk k (by simp [Cell.has])).2 o' m' hg hm
    obtain ⟨h5, h6⟩ := h o m h1 h2
    refine ⟨by omega, fun hl => ?_⟩
    rw [h4 (by omega)]; exact h6 (by omega)
  | os k n a c hc hz h =>
    refine .os k n a c hc hz fun o' m' hg hm => ?_
    obtain ⟨o, m, h1, h2, h3, h4⟩ := (hk k (by simp [Cell.has])).2 o' m' hg hm
    obtain ⟨h5, h6⟩ := h o m h1 h2
    refine ⟨by omega, fun hl => ?_⟩
    rw [h4 (by omega)]; exact h6 (by omega)
  | ov k n off l a c hc hz h =>
    refine .ov k n off l a c hc hz fun o' m' hg hm => ?_
    obtain ⟨o, m, h1, h2, h3, h4⟩ := (hk k (by simp [Cell.has])).2 o' m' hg hm
    obtain ⟨h5, h6⟩ := h o m h1 h2
    refine ⟨by omega, fun hl => ?_⟩
    rw [h4 (by omega)]; exact h6 (by omega)
theorem RT1.stepP {x : TV} {v : Value} (h : RT1 w ω κ σ x v) (hp : pureT1 x = true) (hk : ∀ k, x.has k = true → KeyOk κ σ κ' σ' k) : RT1 w' ω' κ' σ' x v := by
  cases x with
  | c x => exact RC.stepP h hp hk
  | ag cs =>
    obtain ⟨vs, rfl, h1, h2⟩ := h
    exact ⟨vs, rfl, h1.imp fun x y hx hxy => hxy.stepP (pureL_mem hp x hx) fun k hkk => hk k (hasL_of_mem hx hkk), h2⟩
  | tp ts => exact h.elim
theorem RT.stepP {x : TV} {v : Value} (h : RT w ω κ σ x v) (hp : pureT x = true) (hk : ∀ k, x.has k = true → KeyOk κ σ κ' σ' k) : RT w' ω' κ' σ' x v := by
  cases x with
  | c x => exact RC.stepP h hp hk
  | ag cs => exact RT1.stepP (x := .ag cs) h hp hk
  | tp ts =>
    obtain ⟨vs, rfl, h1⟩ := h
    refine ⟨vs, rfl, h1.imp fun x y hx hxy => RT1.stepP hxy (List.all_eq_true.1 hp x hx) fun k hkk => hk k ?_⟩
    simp only [TV.has, List.any_eq_true]
    refine ⟨x, hx, ?_⟩
    cases x <;> first | exact hkk | exact hxy.elim
theorem ObOk.stepP {k : Nat} {o : Ob} (h : ObOk w ω κ σ k o) (hp : (∀ t cs, o = .box t cs → pureL cs = true) ∧ ∀ t e n cs own, o = .vec t e n cs own → own = true) (hκ : κ' k = κ k) (ho : ∀ b, ω b = .ob k → ω' b = .ob k ∧ w'.heap[b]? = w.heap[b]?)
    (hkey : ∀ t cs, o = .box t cs → ∀ i, hasL i cs = true → KeyOk κ σ κ' σ' i) : ObOk w' ω' κ' σ' k o := by
  cases o with
  | box t cs =>
    obtain ⟨b, vs, h1, h2, h3, h4, h5, h6⟩ := h
    exact ⟨b, vs, hκ.trans h1, (ho b h2).1, by rw [(ho b h2).2]; exact h3, h4.imp fun x y hx hxy => hxy.stepP (pureL_mem (hp.1 t cs rfl) x hx) fun i hi => hkey t cs rfl i (hasL_of_mem hx hi), h5, h6⟩
  | vec t e n cs own =>
    obtain ⟨h0, xs, h1, h2, h3⟩ := h
    obtain rfl := hp.2 t e n cs own rfl
    refine ⟨h0, xs, by rw [hκ]; exact h1.kept fun b hb => (ho b (h2 b hb)).2, fun b hb => by rw [hκ] at hb; exact (ho b (h2 b hb)).1, ?_⟩
    rw [hκ]
    exact OwnC.kept h3 ho
  | row n cs =>
    obtain ⟨S, h1, h2⟩ := h
    exact ⟨S, by rw [hκ]; exact h1.kept fun b hb => (ho b (h2 b hb)).2, fun b hb => (ho b (h2 b hb)).1⟩
end
end Go.VC
