/- A frame's variables and objects are changed. -/
import Derived.Test.YtiohpbhdonlonaaW3
set_option linter.unusedSimpArgs false
set_option linter.unusedVariables false
namespace Go.VC
open Go Go.RowKit
section
variable {β : Base} {w w' : World} {ω ω' : Lab} {κ κ' : Nat → Value} {σ σ' : Sto} {E : Env} {a : Act} {s : St} {P : Program}

theorem put_tmps (a : Act) (d : Nat) (v : Value) : (a.put (some d) v).tmps = a.tmps.setIfInBounds d v := rfl
theorem EnvOk.put (h : EnvOk w ω κ σ E a.tmps) {d : Nat} (hd : d < a.tmps.size) {r : TV} {v : Value} (hr : RT w ω κ σ r v) : EnvOk w ω κ σ ((d, r) :: E) (a.put (some d) v).tmps := by
  intro t x hx
  rw [put_tmps]
  rw [get_cons] at hx
  by_cases ht : t = d
  · subst ht
    rw [if_pos rfl] at hx
    obtain rfl := Option.some.inj hx
    refine ⟨by simpa using hd, ?_⟩
    have : (a.tmps.setIfInBounds t v).getD t undef = v := by simp [Array.getD, hd]
    rw [this]; exact hr
  · rw [if_neg ht] at hx
    obtain ⟨h1, h2⟩ := h t x hx
    refine ⟨by simpa using h1, ?_⟩
    have : (a.tmps.setIfInBounds d v).getD t undef = a.tmps.getD t undef := by
      simp [Array.getD, h1, Array.getElem_setIfInBounds, Ne.symm ht]
    rw [this]; exact h2
theorem Rel.put {d : Nat} {r : TV} {v : Value} (h : Rel β ω κ s a w) (hd : d < s.N) (hr : RT w ω κ s.σ r v) : Rel β ω κ ⟨s.N, (d, r) :: s.E, s.σ⟩ (a.put (some d) v) w :=
  ⟨h.turn, h.keys, h.odd, h.defers, by rw [put_tmps]; simpa using h.size, h.env.put (by rw [h.size]; exact hd) hr, h.rs⟩

/-- Nothing names the key k. -/
def noE (k : Nat) : Env → Bool
  | [] => true
  | (_, x) :: r => !x.has k && noE k r
def noS (k : Nat) : Sto → Bool
  | [] => true
  | (_, .box _ cs) :: r => !hasL k cs && noS k r
  | _ :: r => noS k r
/-- Nothing tells what stands in row k. -/
def nnE (k : Nat) : Env → Bool
  | [] => true
  | (_, x) :: r => !x.hasN k && nnE k r
theorem noE_get {k : Nat} (h : noE k E = true) {t : Nat} {x : TV} (hx : get E t = some x) : x.has k = false := by
  induction E with
  | nil => cases hx
  | cons p r ih =>
    obtain ⟨u, y⟩ := p
    simp only [noE, Bool.and_eq_true, Bool.not_eq_true'] at h
    rw [get_cons] at hx
    split at hx
    · obtain rfl := Option.some.inj hx; exact h.1
    · exact ih h.2 hx
theorem nnE_get {k : Nat} (h : nnE k E = true) {t : Nat} {x : TV} (hx : get E t = some x) : x.hasN k = false := by
  induction E with
  | nil => cases hx
  | cons p r ih =>
    obtain ⟨u, y⟩ := p
    simp only [nnE, Bool.and_eq_true, Bool.not_eq_true'] at h
    rw [get_cons] at hx
    split at hx
    · obtain rfl := Option.some.inj hx; exact h.1
    · exact ih h.2 hx
theorem noS_get {k : Nat} (h : noS k σ = true) {j : Nat} {t : TypeId} {cs : List Cell} (hx : get σ j = some (.box t cs)) : hasL k cs = false := by
  induction σ with
  | nil => cases hx
  | cons p r ih =>
    obtain ⟨i, o⟩ := p
    rw [get_cons] at hx
    cases o with
    | box t' cs' =>
      simp only [noS, Bool.and_eq_true, Bool.not_eq_true'] at h
      split at hx
      · injection hx with hx; injection hx with q1 q2; subst q2; exact h.1
      · exact ih h.2 hx
    | vec => 
      simp only [noS] at h
      split at hx
      · injection hx with hx; cases hx
      · exact ih h hx
    | row =>
      simp only [noS] at h
      split at hx
      · injection hx with hx; cases hx
      · exact ih h hx
mutual
theorem hasN_has (k : Nat) : ∀ (x : Cell), x.hasN k = true → x.has k = true
  | .ns j _, h => h
  | .fn _ caps, h => hasNL_has k caps h
  | .im _, h | .nl, h | .ik _ _ _, h | .rf _ _, h | .rv _ _ _, h | .os _ _, h | .ov _ _ _ _, h | .mp _, h | .bad, h => by cases h
theorem hasNL_has (k : Nat) : ∀ (l : List Cell), hasNL k l = true → hasL k l = true
  | [], h => by cases h
  | c :: r, h => by
    simp only [hasNL, Bool.or_eq_true] at h
    simp only [hasL, Bool.or_eq_true]
    rcases h with h | h
    · exact .inl (hasN_has k c h)
    · exact .inr (hasNL_has k r h)
end
theorem hasNT_has (k : Nat) (x : TV) (h : x.hasN k = true) : x.has k = true := by
  cases x with
  | c x => exact hasN_has k x h
  | ag cs => exact hasNL_has k cs h
  | tp ts =>
    simp only [TV.hasN, List.any_eq_true] at h
    simp only [TV.has, List.any_eq_true]
    obtain ⟨x, hx, h⟩ := h
    refine ⟨x, hx, ?_⟩
    cases x with
    | c x => exact hasN_has k x h
    | ag cs => exact hasNL_has k cs h
    | tp ts => cases h

/-- **The object k is changed**; others stay, or go. -/
theorem Rel.change (h : Rel β ω κ s a w) (k : Nat) (ht : Turn w ω w' ω') (hdom : ∀ b, ω' b ≠ .no → b < w'.heap.size) (hκ : ∀ j, j ≠ k → κ' j = κ j)
    (hσ : ∀ j, j ≠ k → get σ' j = none ∨ (get σ' j = get s.σ j ∧ ∀ b, ω b = .ob j → ω' b = .ob j ∧ w'.heap[b]? = w.heap[b]?))
    (hk : ∀ o, get σ' k = some o → ObOk w' ω' κ' σ' k o)
    (hkk : KeyOk κ s.σ κ' σ' k ∨ ((get β.σ k).isSome = false ∧ noE k s.E = true ∧ noS k s.σ = true)) (hn : nnE k s.E = true) : Rel β ω' κ' ⟨s.N, s.E, σ'⟩ a w' := by
  have hkey : ∀ j, j ≠ k → KeyOk κ s.σ κ' σ' j := fun j hj => by
    refine ⟨fun _ => hκ j hj, fun o' m' ho hm => ?_⟩
    rcases hσ j hj with h0 | ⟨h0, _⟩
    · rw [h0] at ho; cases ho
    · rw [h0] at ho; exact ⟨o', m', ho, hm, Nat.le_refl _, fun _ => hκ j hj⟩
  have him : ∀ b, ω b = .im → ω' b = .im ∧ w'.heap[b]? = w.heap[b]? := fun b hb => ⟨ht.im b hb, ht.block b (h.rs.dom b (by rw [hb]; simp)) fun k hk => by rw [hb] at hk; cases hk⟩
  have hnest : ∀ j, j ≠ k → NestOk w κ s.σ w' κ' σ' j := fun j hj o' m' ho hm => by
    rcases hσ j hj with h0 | ⟨h0, h1⟩
    · rw [h0] at ho; cases ho
    · rw [h0] at ho
      refine ⟨⟨o', m', ho, hm⟩, hκ j hj, fun b n c hv hc => (h1 b ?_).2⟩
      have hob := h.rs.ob j o' ho
      cases o' with
      | box => cases hm
      | vec t e n' cs own =>
        obtain ⟨_, xs, _, h3, _⟩ := hob
        exact h3 b (by rw [hv, rowB_some hc])
      | row n' cs =>
        obtain ⟨S, h3, h4⟩ := hob
        rw [hv] at h3
        cases h3 with
        | z => omega
        | sl _ _ _ _ _ _ _ _ _ _ _ _ _ _ _ _ h5 => exact h4 b ((h5 b).2 (.inl rfl))
  have hkE : ∀ t x, get s.E t = some x → ∀ j, x.has j = true → KeyOk κ s.σ κ' σ' j := fun t x hx j hj => by
    by_cases e : j = k
    · subst e
      rcases hkk with h1 | ⟨_, h1, _⟩
      · exact h1
      · rw [noE_get h1 hx] at hj; cases hj
    · exact hkey j e
  refine ⟨h.turn.trans ht, fun j hj => (h.keys j hj).trans ?_, h.odd, h.defers, h.size, fun t x hx => ⟨(h.env t x hx).1, (h.env t x hx).2.step ⟨him, hkE t x hx, fun j hj => ?_⟩⟩, ⟨fun j o ho => ?_, hdom⟩⟩
  · by_cases e : j = k
    · subst e
      rcases hkk with h1 | ⟨h1, _⟩
      · exact h1
      · rw [h1] at hj; cases hj
    · exact hkey j e
  · by_cases e : j = k
    · subst e; rw [nnE_get hn hx] at hj; cases hj
    · exact hnest j e
  · by_cases e : j = k
    · subst e; exact hk o ho
    · rcases hσ j e with h0 | ⟨h0, h1⟩
      · rw [h0] at ho; cases ho
      · rw [h0] at ho
        refine (h.rs.ob j o ho).step (hκ j e) h1 him fun t cs hb i hi => ?_
        subst hb
        by_cases e' : i = k
        · subst e'
          rcases hkk with h1 | ⟨_, _, h1⟩
          · exact h1
          · rw [noS_get h1 ho] at hi; cases hi
        · exact hkey i e'

theorem Turn.grown {w w' : World} {ω ω' : Lab} {row : Option Nat} (hg : w.grownBy w' row) (hrow : ∀ b, row = some b → ∃ k, ω b = .ob k) (him : ∀ b, ω b = .im → ω' b = .im) (hno : ∀ b, b < w.heap.size → ω b = .no → ω' b = .no) : Turn w ω w' ω' :=
  ⟨hg.os, hg.tape, hg.output, hg.size, fun b hb hk => hg.block b hb fun e => by obtain ⟨k, h⟩ := hrow b e.symm; exact hk k h, him, hno⟩
/-- The blocks from 'lo' on go to 'l'. -/
def newL (ω : Lab) (lo hi : Nat) (l : Lb) : Lab := fun b => if lo ≤ b ∧ b < hi then l else ω b

/-- The world grows; what is new is nobody's. -/
theorem Rel.grown (h : Rel β ω κ s a w) (hg : w.grownBy w' none) : Rel β ω κ s a w' := by
  have hb : ∀ b, ω b ≠ .no → w'.heap[b]? = w.heap[b]? := fun b hb => hg.block b (h.rs.dom b hb) (by simp)
  have ho : ∀ b j, ω b = .ob j → ω b = .ob j ∧ w'.heap[b]? = w.heap[b]? := fun b j hj => ⟨hj, hb b (by rw [hj]; simp)⟩
  have him : ∀ b, ω b = .im → ω b = .im ∧ w'.heap[b]? = w.heap[b]? := fun b hj => ⟨hj, hb b (by rw [hj]; simp)⟩
  refine ⟨h.turn.trans (Turn.grown hg (by simp) (fun _ h => h) (fun _ _ h => h)), h.keys, h.odd, h.defers, h.size, fun t x hx => ⟨(h.env t x hx).1, (h.env t x hx).2.step ⟨him, fun j _ => KeyOk.refl _ _ _, fun j _ o' m' ho' hm => ⟨⟨o', m', ho', hm⟩, rfl, fun b n c hv hc => hb b ?_⟩⟩⟩, ⟨fun j o hj => (h.rs.ob j o hj).step rfl (ho · j) him fun _ _ _ i _ => KeyOk.refl _ _ _, fun b hb => Nat.lt_of_lt_of_le (h.rs.dom b hb) hg.size⟩⟩
  have hob := h.rs.ob j o' ho'
  cases o' with
  | box => cases hm
  | vec t e n' cs own =>
    obtain ⟨_, xs, _, h3, _⟩ := hob
    rw [h3 b (by rw [hv, rowB_some hc])]; simp
  | row n' cs =>
    obtain ⟨S, h3, h4⟩ := hob
    rw [hv] at h3
    cases h3 with
    | z => omega
    | sl _ _ _ _ _ _ _ _ _ _ _ _ _ _ _ _ h5 => rw [h4 b ((h5 b).2 (.inl rfl))]; simp
/-- More is all's. -/
theorem Rel.more (h : Rel β ω κ s a w) {lo : Nat} (hlo : ∀ b, lo ≤ b → b < w.heap.size → ω b = .no) (hb : β.w.heap.size ≤ lo) : Rel β (newL ω lo w.heap.size .im) κ s a w := by
  have hn : ∀ b l, ω b = l → l ≠ .no → newL ω lo w.heap.size .im b = l := fun b l hl hne => by
    unfold newL
    split
    · rename_i hc; rw [hlo b hc.1 hc.2] at hl; exact absurd hl.symm hne
    · exact hl
  have him : ∀ b, ω b = .im → newL ω lo w.heap.size .im b = .im ∧ w.heap[b]? = w.heap[b]? := fun b hb => ⟨hn b _ hb (by simp), rfl⟩
  refine ⟨⟨h.turn.os, h.turn.tape, h.turn.output, h.turn.size, h.turn.block, fun b hb => hn b _ (h.turn.im b hb) (by simp), fun b hb1 hb2 => ?_⟩, h.keys, h.odd, h.defers, h.size, fun t x hx => ⟨(h.env t x hx).1, (h.env t x hx).2.step ⟨him, fun j _ => KeyOk.refl _ _ _, fun j _ o' m' ho' hm => ⟨⟨o', m', ho', hm⟩, rfl, fun _ _ _ _ _ => rfl⟩⟩⟩,
    ⟨fun j o hj => (h.rs.ob j o hj).step rfl (fun b hb => ⟨hn b _ hb (by simp), rfl⟩) him fun _ _ _ i _ => KeyOk.refl _ _ _, fun b hb => ?_⟩⟩
  · unfold newL
    rw [if_neg (by omega)]
    exact h.turn.no b hb1 hb2
  · unfold newL at hb
    split at hb
    · omega
    · exact h.rs.dom b hb

theorem setL_eq {α : Type} (news : List α) : ∀ (cs : List α) (off : Nat), off + news.length ≤ cs.length → setL cs off news = cs.take off ++ news ++ cs.drop (off + news.length) := by
  induction news with
  | nil => intro cs off _; simp [setL]
  | cons x r ih =>
    intro cs off h
    simp only [List.length_cons] at h
    rw [setL, ih _ _ (by simp; omega)]
    apply List.ext_getElem?
    intro j
    by_cases h1 : j < off
    · simp [List.getElem?_append, List.getElem?_take, h1, show j < off + 1 by omega, show j < cs.length by omega, List.getElem?_set, show off ≠ j by omega, show j < off + 1 + r.length by omega, Nat.min_eq_left (show off ≤ cs.length by omega), Nat.min_eq_left (show off + 1 ≤ cs.length by omega), show j < off + (r.length + 1) by omega]
    · by_cases h2 : j = off
      · subst h2
        simp [List.getElem?_append, List.getElem?_take, List.getElem?_set, show j < cs.length by omega, Nat.min_eq_left (show j ≤ cs.length by omega), Nat.min_eq_left (show j + 1 ≤ cs.length by omega), show j < j + 1 + r.length by omega]
      · by_cases h3 : j < off + 1 + r.length
        · obtain ⟨d, rfl⟩ : ∃ d, j = off + 1 + d := ⟨j - (off + 1), by omega⟩
          have e : off + 1 + d - off = d + 1 := by omega
          simp [List.getElem?_append, Nat.min_eq_left (show off ≤ cs.length by omega), Nat.min_eq_left (show off + 1 ≤ cs.length by omega), show ¬ off + 1 + d < off by omega, e, show d < r.length by omega]
        · obtain ⟨d, rfl⟩ : ∃ d, j = off + 1 + r.length + d := ⟨j - (off + 1 + r.length), by omega⟩
          have e1 : ¬ off + 1 + r.length + d < off := by omega
          have e2 : off + 1 + r.length + d - off = (r.length + 1) + d := by omega
          have e3 : off + 1 + r.length + d - (off + 1) = r.length + d := by omega
          simp [List.getElem?_append, Nat.min_eq_left (show off ≤ cs.length by omega), Nat.min_eq_left (show off + 1 ≤ cs.length by omega), e1, e2, e3, List.getElem?_drop, List.getElem?_set, show ¬ off = off + 1 + r.length + d by omega]
          rw [if_neg (by omega), if_neg (by omega), show r.length + 1 + d = (r.length + d) + 1 by omega, List.getElem?_cons_succ, List.getElem?_append_right (by omega), List.getElem?_drop]
          congr 1
          omega
/-- What stands where after cells have been set. -/
theorem setL_get {α : Type} {news cs : List α} {off : Nat} (h : off + news.length ≤ cs.length) (j : Nat) : (setL cs off news)[j]? = if off ≤ j ∧ j < off + news.length then news[j - off]? else cs[j]? := by
  rw [setL_eq _ _ _ h]
  by_cases h1 : j < off
  · rw [if_neg (by omega), List.append_assoc, List.getElem?_append_left (by simp; omega), List.getElem?_take_of_lt h1]
  · by_cases h2 : j < off + news.length
    · rw [if_pos ⟨by omega, h2⟩, List.append_assoc, List.getElem?_append_right (by simp; omega), List.getElem?_append_left (by simp; omega)]
      simp [Nat.min_eq_left (show off ≤ cs.length by omega)]
    · rw [if_neg (by omega), List.getElem?_append_right (by simp; omega), List.getElem?_drop]
      congr 1
      simp; omega

theorem setRow_grown (w : World) (g : Nat) (cs : Array Value) : w.grownBy (w.setRow g cs) (some g) :=
  ⟨rfl, rfl, rfl, by simp [World.setRow], fun k hk hne => by
    simp only [World.setRow, Array.getElem?_modify]
    rw [if_neg (fun e => hne (by rw [e]))]⟩
theorem setRow_other (w : World) (g b : Nat) (cs : Array Value) (h : b ≠ g) : (w.setRow g cs).heap[b]? = w.heap[b]? := by
  simp only [World.setRow, Array.getElem?_modify]
  rw [if_neg (fun e => h e.symm)]
theorem setRow_size (w : World) (g : Nat) (cs : Array Value) : (w.setRow g cs).heap.size = w.heap.size := by simp [World.setRow]

/-- A store into a box. -/
theorem Rel.stBox {k off : Nat} {t : TypeId} {cs news : List Cell} {vs : List Value} (h : Rel β ω κ s a w) (hk : get s.σ k = some (.box t cs)) (hn : All2 (RC w ω κ s.σ) news vs) (h1 : ∀ u ∈ vs, u.oneCell' = true) (hnn : anyNL news = false)
    (hl : off + news.length ≤ cs.length) (hnE : nnE k s.E = true) (P : Program) : ∃ b w', κ k = .pointer (some ⟨b, 0, none⟩) ∧ (storeCells ⟨b, off, none⟩ vs).run P w = .ok () w' ∧
      Rel β ω κ ⟨s.N, s.E, upd s.σ k (.box t (setL cs off news))⟩ a w' := by
  obtain ⟨b, us, e1, e2, e3, e4, e5, e6⟩ := h.rs.ob k _ hk
  have hlen : cs.length = us.size := by simpa using e4.1
  have hnl : news.length = vs.length := hn.1
  have hrun := run_storeCells_at P b off t vs 0 us w e3 (by omega) h1
  simp only [Nat.add_zero] at hrun
  have hlist : us.toList.take off ++ vs ++ us.toList.drop (off + vs.length) = setL us.toList off vs := (setL_eq vs us.toList off (by simp; omega)).symm
  rw [hlist] at hrun
  refine ⟨b, _, e1, hrun, ?_⟩
  have hsome : (get s.σ k).isSome = true := by rw [hk]; rfl
  have hkey : ∀ j, KeyOk κ s.σ κ (upd s.σ k (.box t (setL cs off news))) j := fun j => by
    refine ⟨fun _ => rfl, fun o' m' hg hm => ?_⟩
    rw [get_upd _ _ _ _ hsome] at hg
    split at hg
    · injection hg with hg; subst hg; cases hm
    · exact ⟨o', m', hg, hm, Nat.le_refl _, fun _ => rfl⟩
  have hb : ∀ c, ω c ≠ .ob k → (w.setRow b (setL us.toList off vs).toArray).heap[c]? = w.heap[c]? := fun c hc => setRow_other _ _ _ _ fun e => by subst e; exact hc e2
  refine h.change k (Turn.grown (setRow_grown w b _) (fun c hc => ⟨k, by obtain rfl := Option.some.inj hc; exact e2⟩) (fun _ h => h) fun _ _ h => h) (fun c hc => by rw [setRow_size]; exact h.rs.dom c hc) (fun _ _ => rfl)
    (fun j hj => .inr ⟨by rw [get_upd _ _ _ _ hsome, if_neg hj], fun c hc => ⟨hc, hb c (by rw [hc]; simp; exact hj)⟩⟩) (fun o ho => ?_) (.inl (hkey k)) hnE
  rw [get_upd _ _ _ _ hsome, if_pos rfl] at ho
  obtain rfl := Option.some.inj ho
  have hov : Over w ω κ s.σ (w.setRow b (setL us.toList off vs).toArray) ω κ (upd s.σ k (.box t (setL cs off news))) (fun _ => True) (fun _ => False) :=
    ⟨fun c hc => ⟨hc, hb c (by rw [hc]; simp)⟩, fun j _ => hkey j, fun _ h => h.elim⟩
  have hno : ∀ (l : List Cell), anyNL l = false → ∀ x ∈ l, ∀ j, x.hasN j = true → False := fun l hl x hx j hj => by rw [anyN_has j x (anyNL_mem hl x hx)] at hj; cases hj
  refine ⟨b, (setL us.toList off vs).toArray, e1, e2, setRow_heap w b us _ t (0, 0) e3, ?_, fun u hu => ?_, ?_⟩
  · exact All2.setL (hn.imp fun x y hx hxy => hxy.step (hov.sub (fun _ _ => trivial) (hno _ hnn x hx))) off (e4.imp fun x y hx hxy => hxy.step (hov.sub (fun _ _ => trivial) (hno _ e6 x hx)))
  · rcases setL_mem (by simpa using hu) with hu | hu
    · exact e5 u (by simpa using hu)
    · exact h1 u hu
  · have : ∀ (l : List Cell), (∀ x ∈ l, x.anyN = false) → anyNL l = false := fun l => by
      induction l with
      | nil => intro _; rfl
      | cons c r ih => intro h; simp [anyNL, h c (by simp), ih fun x hx => h x (by simp [hx])]
    refine this _ fun x hx => ?_
    rcases setL_mem hx with hx | hx
    · exact anyNL_mem e6 x hx
    · exact anyNL_mem hnn x hx
end
end Go.VC
