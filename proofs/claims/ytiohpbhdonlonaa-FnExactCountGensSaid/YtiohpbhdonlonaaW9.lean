/- Calls. -/
import Derived.Test.YtiohpbhdonlonaaW8
set_option linter.unusedSimpArgs false
set_option linter.unusedVariables false
namespace Go.VC
open Go Go.RowKit
section
variable {β : Base} {w w' : World} {ω ω' : Lab} {κ κ' : Nat → Value} {σ σ' : Sto} {E : Env} {a : Act} {s : St} {P : Program}

def dom (σ : Sto) : List Nat := σ.map (·.1)
theorem dom_get {σ : Sto} {k : Nat} : k ∈ dom σ ↔ (get σ k).isSome = true := by
  induction σ with
  | nil => simp [dom, Go.VC.get]
  | cons p r ih =>
    obtain ⟨j, o⟩ := p
    rw [get_cons]
    simp only [dom, List.map_cons, List.mem_cons] at ih ⊢
    by_cases h : k = j
    · simp [h]
    · simp [h]; simpa using ih
/-- What the callee sees. -/
def seenL (ω : Lab) (σ0 : Sto) (l : Lb) : Lab := fun b => match ω b with
  | .ob k => if (get σ0 k).isSome then .ob k else l
  | x => x
/-- What the caller sees behind the call. -/
def backL (ω : Lab) (σ0 : Sto) (n : Nat) (ωc : Lab) : Lab := fun b => match ω b with
  | .ob k => if (get σ0 k).isSome then ωc b else .ob k
  | .im => .im
  | .no => if b < n then .no else ωc b
def backK (κ : Nat → Value) (σ0 σ1 : Sto) (κc : Nat → Value) : Nat → Value := fun k => if (get σ0 k).isSome ∨ (get σ1 k).isSome then κc k else κ k
def backS (σ σ0 σ1 : Sto) : Sto := σ1 ++ delL σ (dom σ0)
theorem get_backS (σ σ0 σ1 : Sto) (k : Nat) : get (backS σ σ0 σ1) k = match get σ1 k with | some o => some o | none => if (get σ0 k).isSome then none else get σ k := by
  unfold backS
  rw [get_append, get_delL]
  cases h : get σ1 k with
  | some o => rfl
  | none => simp [dom_get]
/-- An argument, as the callee sees it. -/
def ArgOk (σ : Sto) (x y : TV) : Prop := y = x ∨ match x with
  | .c x => ∃ z, toIV σ x = some z ∧ y = .c (.im z)
  | .ag cs => ∃ zs, toIVL σ cs = some zs ∧ y = .ag (zs.map .im)
  | .tp _ => False
def ArgsOk (σ : Sto) : List TV → List TV → Prop
  | [], [] => True
  | x :: xs, y :: ys => ArgOk σ x y ∧ ArgsOk σ xs ys
  | _, _ => False
theorem toIVL_ok (hS : RS w ω κ σ) {cs : List Cell} {zs : List IV} {vs : List Value} (h : toIVL σ cs = some zs) (hv : All2 (RC w ω κ σ) cs vs) : All2 (RI w (allIm ω)) zs vs := by
  obtain ⟨h1, h2⟩ := toIVL_get h
  refine ⟨by rw [h1, hv.1], fun j x v hx hxv => ?_⟩
  obtain ⟨c, hc, hcx⟩ := h2 j x hx
  exact toIV_ok hS (hv.2 j c v hc hxv) hcx

theorem seen_im {σ0 : Sto} {l : Lb} {b : Nat} (h : ω b = .im) : seenL ω σ0 l b = .im := by unfold seenL; rw [h]
theorem seen_no {σ0 : Sto} {l : Lb} {b : Nat} (h : ω b = .no) : seenL ω σ0 l b = .no := by unfold seenL; rw [h]
theorem seen_in {σ0 : Sto} {l : Lb} {b k : Nat} (h : ω b = .ob k) (hk : (get σ0 k).isSome = true) : seenL ω σ0 l b = .ob k := by unfold seenL; rw [h]; simp [hk]
theorem seen_out {σ0 : Sto} {l : Lb} {b k : Nat} (h : ω b = .ob k) (hk : (get σ0 k).isSome = false) : seenL ω σ0 l b = l := by unfold seenL; rw [h]; simp [hk]

/-- What the callee is handed. -/
theorem seen_ok (hS : RS w ω κ σ) {σ0 : Sto} {l : Lb} (hl : l = .im ∨ l = .no) (hsub : ∀ k o, get σ0 k = some o → get σ k = some o) : RS w (seenL ω σ0 l) κ σ0 ∧ (∀ b k, seenL ω σ0 l b = .ob k → (get σ0 k).isSome = true) ∧ ∀ x v, RT w ω κ σ x v → RT w (seenL ω σ0 l) κ σ0 x v := by
  have hkey : ∀ k, KeyOk κ σ κ σ0 k := fun k => ⟨fun _ => rfl, fun o m ho hm => ⟨o, m, hsub k o ho, hm, Nat.le_refl _, fun _ => rfl⟩⟩
  have him : ∀ b, ω b = .im → seenL ω σ0 l b = .im ∧ w.heap[b]? = w.heap[b]? := fun b hb => ⟨seen_im hb, rfl⟩
  refine ⟨⟨fun k o hk => (hS.ob k o (hsub k o hk)).step rfl (fun b hb => ⟨seen_in hb (by rw [hk]; rfl), rfl⟩) him fun _ _ _ i _ => hkey i, fun b hb => hS.dom b fun e => hb (seen_no e)⟩, fun b k hb => ?_, fun x v hx => hx.step ⟨him, fun k _ => hkey k, fun k _ o m ho hm => ⟨⟨o, m, hsub k o ho, hm⟩, rfl, fun _ _ _ _ _ => rfl⟩⟩⟩
  cases hw : ω b with
  | no => rw [seen_no hw] at hb; cases hb
  | im => rw [seen_im hw] at hb; cases hb
  | ob j =>
    cases hj : (get σ0 j).isSome with
    | true => rw [seen_in hw hj] at hb; injection hb with hb; subst hb; exact hj
    | false => rw [seen_out hw hj] at hb; subst hb; rcases hl with h | h <;> cases h

/-- Does it name keys of these alone? -/
def keysIn (σ0 σ1 : Sto) (ks : List Nat) : Bool := ks.all fun k => (get σ0 k).isSome || (get σ1 k).isSome
def keysInS (σ0 σ1 : Sto) : Sto → Bool
  | [] => true
  | (_, .box _ cs) :: r => keysIn σ0 σ1 (keysL cs) && keysInS σ0 σ1 r
  | _ :: r => keysInS σ0 σ1 r
theorem keysInS_get {σ0 σ1 : Sto} : ∀ {σ : Sto}, keysInS σ0 σ1 σ = true → ∀ {k t cs}, get σ k = some (.box t cs) → keysIn σ0 σ1 (keysL cs) = true
  | [], _, _, _, _, h => by cases h
  | (j, q) :: r, h, k, t, cs, hg => by
    rw [get_cons] at hg
    cases q with
    | box t' cs' =>
      simp only [keysInS, Bool.and_eq_true] at h
      split at hg
      · injection hg with hg; injection hg with _ q; subst q; exact h.1
      · exact keysInS_get h.2 hg
    | vec =>
      simp only [keysInS] at h
      split at hg
      · injection hg with hg; cases hg
      · exact keysInS_get h hg
    | row =>
      simp only [keysInS] at h
      split at hg
      · injection hg with hg; cases hg
      · exact keysInS_get h hg
/-- Are the new objects' keys new? -/
def freshB (s : St) (σ0 σ1 : Sto) : Bool := (dom σ1).all fun k => (get σ0 k).isSome || (decide (k % 2 = 0) && noE k s.E && noS k s.σ)
/-- Nothing tells what stands in the rows that are handed over. -/
def nnAll (s : St) (σ0 : Sto) : Bool := (dom σ0).all fun k => nnE k s.E

/-- **Behind a call.** -/
theorem Rel.back (h : Rel β ω κ s a w) {σ0 σ1 : Sto} {l : Lb} {r : TV} {v : Value} {ωc : Lab} {κc : Nat → Value} (hsub : ∀ k o, get σ0 k = some o → get s.σ k = some o) (hl : l = .im ∧ pureT r = true ∧ pureS σ1 = true ∨ l = .no)
    (ht : Turn w (seenL ω σ0 l) w' ωc) (hS : RS w' ωc κc σ1) (hr : RT w' ωc κc σ1 r v) (hk : ∀ k, (get σ0 k).isSome = true → KeyOk κ σ0 κc σ1 k) (hki : keysIn σ0 σ1 r.keys = true) (hks : keysInS σ0 σ1 σ1 = true)
    (hf : freshB s σ0 σ1 = true) (hnn : nnAll s σ0 = true) {d : Nat} (hd : d < s.N) : RelE β ⟨s.N, (d, r) :: s.E, backS s.σ σ0 σ1⟩ (a.put (some d) v) w' := by
  have hcb : ∀ b k, ωc b = .ob k → backL ω σ0 w.heap.size ωc b = .ob k := fun b k hb => by
    unfold backL
    cases hw : ω b with
    | im => have := ht.im b (seen_im hw); rw [hb] at this; cases this
    | no =>
      by_cases hlt : b < w.heap.size
      · have := ht.no b hlt (seen_no hw); rw [hb] at this; cases this
      · simp [hlt, hb]
    | ob j =>
      simp only
      cases hj : (get σ0 j).isSome with
      | true => simp [hb]
      | false =>
        have hlt := h.rs.dom b (by rw [hw]; simp)
        rcases hl with ⟨rfl, _⟩ | rfl
        · have := ht.im b (seen_out hw hj); rw [hb] at this; cases this
        · have := ht.no b hlt (seen_out hw hj); rw [hb] at this; cases this
  have hold : ∀ b j, ω b = .ob j → (get σ0 j).isSome = false → backL ω σ0 w.heap.size ωc b = .ob j ∧ w'.heap[b]? = w.heap[b]? := fun b j hb hj => by
    refine ⟨by unfold backL; rw [hb]; simp [hj], ht.block b (h.rs.dom b (by rw [hb]; simp)) fun k hk' => ?_⟩
    rw [seen_out hb hj] at hk'
    rcases hl with ⟨rfl, _⟩ | rfl <;> cases hk'
  have him : ∀ b, ω b = .im → backL ω σ0 w.heap.size ωc b = .im ∧ w'.heap[b]? = w.heap[b]? := fun b hb =>
    ⟨by unfold backL; rw [hb], ht.block b (h.rs.dom b (by rw [hb]; simp)) fun k hk' => by rw [seen_im hb] at hk'; cases hk'⟩
  have hnew : ∀ k, (get σ1 k).isSome = true → (get σ0 k).isSome = false → k % 2 = 0 ∧ noE k s.E = true ∧ noS k s.σ = true := fun k h1 h2 => by
    have := List.all_eq_true.1 hf k (dom_get.2 h1)
    simp only [h2, Bool.false_or, Bool.and_eq_true, decide_eq_true_eq] at this
    exact ⟨this.1.1, this.1.2, this.2⟩
  -- an old key that is no new one
  have hkey : ∀ k, ((get σ1 k).isSome = true → (get σ0 k).isSome = true) → KeyOk κ s.σ (backK κ σ0 σ1 κc) (backS s.σ σ0 σ1) k := fun k hno => by
    cases h0 : (get σ0 k).isSome with
    | true =>
      have hk0 := hk k h0
      refine ⟨fun hst => ?_, fun o' m' ho hm => ?_⟩
      · unfold backK; rw [if_pos (.inl h0)]; exact hk0.1 hst
      · rw [get_backS] at ho
        split at ho
        · rename_i o1 h1
          obtain rfl := Option.some.inj ho
          obtain ⟨o, m, g1, g2, g3, g4⟩ := hk0.2 o1 m' h1 hm
          exact ⟨o, m, hsub k o g1, g2, g3, fun e => by unfold backK; rw [if_pos (.inl h0)]; exact g4 e⟩
        · rw [if_pos h0] at ho; cases ho
    | false =>
      have h1 : (get σ1 k).isSome = false := by
        cases h1 : (get σ1 k).isSome with
        | false => rfl
        | true => rw [hno h1] at h0; cases h0
      have hκ : backK κ σ0 σ1 κc k = κ k := by unfold backK; rw [if_neg (by simp [h0, h1])]
      refine ⟨fun _ => hκ, fun o' m' ho hm => ?_⟩
      rw [get_backS] at ho
      cases h1' : get σ1 k with
      | some o => rw [h1'] at h1; cases h1
      | none =>
        rw [h1'] at ho
        simp only [h0, Bool.false_eq_true, if_false] at ho
        exact ⟨o', m', ho, hm, Nat.le_refl _, fun _ => hκ⟩
  -- a key that the callee has named
  have hkc : ∀ k, (get σ0 k).isSome = true ∨ (get σ1 k).isSome = true → KeyOk κc σ1 (backK κ σ0 σ1 κc) (backS s.σ σ0 σ1) k := fun k hk' => by
    have hκ : backK κ σ0 σ1 κc k = κc k := by unfold backK; rw [if_pos hk']
    refine ⟨fun _ => hκ, fun o' m' ho hm => ?_⟩
    rw [get_backS] at ho
    split at ho
    · rename_i o1 h1
      obtain rfl := Option.some.inj ho
      exact ⟨o1, m', h1, hm, Nat.le_refl _, fun _ => hκ⟩
    · rename_i h1
      rcases hk' with hk' | hk'
      · rw [if_pos hk'] at ho; cases ho
      · rw [h1] at hk'; cases hk'
  have hin : ∀ {ks : List Nat}, keysIn σ0 σ1 ks = true → ∀ k ∈ ks, (get σ0 k).isSome = true ∨ (get σ1 k).isSome = true := fun hks k hk' => by
    have := List.all_eq_true.1 hks k hk'
    simpa using this
  have himc : l = .no → ∀ b, ωc b = .im → backL ω σ0 w.heap.size ωc b = .im ∧ w'.heap[b]? = w'.heap[b]? := fun hln b hb => by
    refine ⟨?_, rfl⟩
    unfold backL
    cases hw : ω b with
    | im => rfl
    | no =>
      by_cases hlt : b < w.heap.size
      · have := ht.no b hlt (seen_no hw); rw [hb] at this; cases this
      · simp [hlt, hb]
    | ob j =>
      simp only
      cases hj : (get σ0 j).isSome with
      | true => simp [hb]
      | false =>
        have := ht.no b (h.rs.dom b (by rw [hw]; simp)) (by rw [seen_out hw hj, hln])
        rw [hb] at this; cases this
  have hrs : RS w' (backL ω σ0 w.heap.size ωc) (backK κ σ0 σ1 κc) (backS s.σ σ0 σ1) := by
    refine ⟨fun k o ho => ?_, fun b hb => ?_⟩
    · rw [get_backS] at ho
      split at ho
      · rename_i o1 h1
        obtain rfl := Option.some.inj ho
        have hob := hS.ob k o1 h1
        have hκ : backK κ σ0 σ1 κc k = κc k := by unfold backK; rw [if_pos (.inr (by rw [h1]; rfl))]
        have hbk : ∀ t cs, o1 = .box t cs → ∀ i, hasL i cs = true → KeyOk κc σ1 (backK κ σ0 σ1 κc) (backS s.σ σ0 σ1) i := fun t cs e i hi => by
          subst e
          exact hkc i (hin (keysInS_get hks h1) i (hasL_keys i cs hi))
        rcases hl with ⟨_, _, hp⟩ | hln
        · exact hob.stepP (pureS_get hp h1) hκ (fun b hb => ⟨hcb b k hb, rfl⟩) hbk
        · exact hob.step hκ (fun b hb => ⟨hcb b k hb, rfl⟩) (himc hln) hbk
      · rename_i h1
        cases h0 : (get σ0 k).isSome with
        | true => rw [if_pos h0] at ho; cases ho
        | false =>
          simp only [h0, Bool.false_eq_true, if_false] at ho
          have hκ : backK κ σ0 σ1 κc k = κ k := by unfold backK; rw [if_neg (by simp [h0, h1])]
          refine (h.rs.ob k o ho).step hκ (fun b hb => hold b k hb h0) him fun t cs e i hi => ?_
          subst e
          refine hkey i fun hi1 => ?_
          cases hi0 : (get σ0 i).isSome with
          | true => rfl
          | false => rw [noS_get (hnew i hi1 hi0).2.2 ho] at hi; cases hi
    · unfold backL at hb
      cases hw : ω b with
      | im => exact Nat.lt_of_lt_of_le (h.rs.dom b (by rw [hw]; simp)) ht.size
      | ob j => exact Nat.lt_of_lt_of_le (h.rs.dom b (by rw [hw]; simp)) ht.size
      | no =>
        rw [hw] at hb
        simp only at hb
        split at hb
        · cases hb rfl
        · exact hS.dom b hb
  have hrel : Rel β (backL ω σ0 w.heap.size ωc) (backK κ σ0 σ1 κc) ⟨s.N, s.E, backS s.σ σ0 σ1⟩ a w' := by
    refine ⟨h.turn.trans ⟨ht.os, ht.tape, ht.output, ht.size, fun b hb hk' => ?_, fun b hb => (him b hb).1, fun b hb hno => by unfold backL; rw [hno]; simp [hb]⟩, fun k hk' => (h.keys k hk').trans (hkey k fun h1 => ?_), h.odd, h.defers, h.size, fun t x hx => ⟨(h.env t x hx).1, (h.env t x hx).2.step ⟨him, fun k hkx => hkey k fun h1 => ?_, fun k hkx o' m' ho hm => ?_⟩⟩, hrs⟩
    · refine ht.block b hb fun k hk'' => ?_
      cases hw : ω b with
      | im => rw [seen_im hw] at hk''; cases hk''
      | no => rw [seen_no hw] at hk''; cases hk''
      | ob j => exact hk' j hw
    · cases h0 : (get σ0 k).isSome with
      | true => rfl
      | false => have := (hnew k h1 h0).1; have := h.odd k hk'; omega
    · cases h0 : (get σ0 k).isSome with
      | true => rfl
      | false => rw [noE_get (hnew k h1 h0).2.1 hx] at hkx; cases hkx
    · cases h0 : (get σ0 k).isSome with
      | true =>
        have := List.all_eq_true.1 hnn k (dom_get.2 h0)
        rw [nnE_get this hx] at hkx; cases hkx
      | false =>
        have h1 : (get σ1 k).isSome = false := by
          cases h1 : (get σ1 k).isSome with
          | false => rfl
          | true => have := hasNT_has k x hkx; rw [noE_get (hnew k h1 h0).2.1 hx] at this; cases this
        rw [get_backS] at ho
        cases h1' : get σ1 k with
        | some o => rw [h1'] at h1; cases h1
        | none =>
          rw [h1'] at ho
          simp only [h0, Bool.false_eq_true, if_false] at ho
          refine ⟨⟨o', m', ho, hm⟩, by unfold backK; rw [if_neg (by simp [h0, h1])], fun b n c hv hc => (hold b k ?_ h0).2⟩
          have hob := h.rs.ob k o' ho
          cases o' with
          | box => cases hm
          | vec t' e' n' cs own =>
            obtain ⟨_, xs, _, h3, _⟩ := hob
            exact h3 b (by rw [hv, rowB_some hc])
          | row n' cs =>
            obtain ⟨S, h3, h4⟩ := hob
            rw [hv] at h3
            cases h3 with
            | z => omega
            | sl _ _ _ _ _ _ _ _ _ _ _ _ _ _ _ _ h5 => exact h4 b ((h5 b).2 (.inl rfl))
  have hrv : RT w' (backL ω σ0 w.heap.size ωc) (backK κ σ0 σ1 κc) (backS s.σ σ0 σ1) r v := by
    have hkr : ∀ k, r.has k = true → KeyOk κc σ1 (backK κ σ0 σ1 κc) (backS s.σ σ0 σ1) k := fun k hk' => hkc k (hin hki k (hasT_keys k r hk'))
    rcases hl with ⟨_, hp, _⟩ | hln
    · exact hr.stepP hp hkr
    · refine hr.step ⟨himc hln, hkr, fun k hk' o' m' ho hm => ?_⟩
      rw [get_backS] at ho
      split at ho
      · rename_i o1 h1
        obtain rfl := Option.some.inj ho
        exact ⟨⟨o1, m', h1, hm⟩, by unfold backK; rw [if_pos (.inr (by rw [h1]; rfl))], fun _ _ _ _ _ => rfl⟩
      · rename_i h1
        rcases hin hki k (hasT_keys k r (hasNT_has k r hk')) with h0 | h0
        · rw [if_pos h0] at ho; cases ho
        · rw [h1] at h0; cases h0
  exact ⟨_, _, hrel.put hd hrv⟩
end
end Go.VC
