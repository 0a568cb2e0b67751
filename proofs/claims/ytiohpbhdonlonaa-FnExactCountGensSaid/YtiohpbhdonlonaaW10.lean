/- What each operation comes to in a frame. -/
import Derived.Test.YtiohpbhdonlonaaW9
set_option linter.unusedSimpArgs false
set_option linter.unusedVariables false
namespace Go.VC
open Go Go.RowKit
section
variable {β : Base} {w w' : World} {ω ω' : Lab} {κ κ' : Nat → Value} {σ σ' : Sto} {E : Env} {a : Act} {s : St} {P : Program}

/-- A mark that keeps the simplifier out of what it marks. -/
inductive Tg.{u} {α : Sort u} (x : α) : Type
  | mk

/-! Sharing a row's trees. -/
def St.share (s : St) (k : Nat) : St := match get s.σ k with
  | some (.vec t e n cs true) => ⟨s.N, s.E, upd s.σ k (.vec t e n cs false)⟩
  | _ => s
theorem Rel.share (h : Rel β ω κ s a w) (k : Nat) (hn : nnE k s.E = true) : ∃ ω', Rel β ω' κ (s.share k) a w := by
  unfold St.share
  split
  · rename_i t e n cs hk
    have hsome : (get s.σ k).isSome = true := by rw [hk]; rfl
    obtain ⟨h0, xs, h1, h2, h3⟩ := h.rs.ob k _ hk
    obtain ⟨h4, Ss, h5, h6, h7⟩ : OwnC w ω k (rowB (κ k)) cs xs := h3
    refine ⟨fun b => if ω b = .ob k ∧ some b ≠ rowB (κ k) then .im else ω b, h.change k ⟨rfl, rfl, rfl, Nat.le_refl _, fun _ _ _ => rfl, fun b hb => by simp [hb], fun b _ hb => by simp [hb]⟩ (fun b hb => ?_) (fun _ _ => rfl) (fun j hj => .inr ⟨by rw [get_upd _ _ _ _ hsome, if_neg hj], fun b hb => ⟨by rw [if_neg (by rw [hb]; simp; intro e; exact absurd e hj), hb], rfl⟩⟩) (fun o ho => ?_) (.inl ⟨fun _ => rfl, fun o' m' ho hm => ?_⟩) hn⟩
    · split at hb
      · rename_i hc; exact h.rs.dom b (by rw [hc.1]; simp)
      · exact h.rs.dom b hb
    · rw [get_upd _ _ _ _ hsome, if_pos rfl] at ho
      obtain rfl := Option.some.inj ho
      refine ⟨h0, xs, h1, fun b hb => by show (if ω b = .ob k ∧ some b ≠ rowB (κ k) then Lb.im else ω b) = _; rw [if_neg (by rw [hb]; simp)]; exact h2 b hb, ?_⟩
      refine ⟨h4, fun j x v hx hv => (h5 j x v hx hv).im fun b hb => ?_⟩
      have := h7 j b (List.getElem?_eq_some_iff.1 hx).1 hb
      show (if ω b = .ob k ∧ some b ≠ rowB (κ k) then Lb.im else ω b) = _
      rw [if_pos this]
    · rw [get_upd _ _ _ _ hsome, if_pos rfl] at ho
      obtain rfl := Option.some.inj ho
      exact ⟨_, m', hk, hm, Nat.le_refl _, fun _ => rfl⟩
  · exact ⟨ω, h⟩
/-- An own row is taken for one of a fixed length. -/
def St.toRow (s : St) (k : Nat) : St := match get s.σ k with
  | some (.vec t e n cs true) => ⟨s.N, s.E, upd s.σ k (.row n cs)⟩
  | _ => s
theorem Rel.toRow (h : Rel β ω κ s a w) (k : Nat) (hn : nnE k s.E = true) : Rel β ω κ (s.toRow k) a w := by
  unfold St.toRow
  split
  · rename_i t e n cs hk
    have hsome : (get s.σ k).isSome = true := by rw [hk]; rfl
    refine h.change k (Turn.refl _ _) h.rs.dom (fun _ _ => rfl) (fun j hj => .inr ⟨by rw [get_upd _ _ _ _ hsome, if_neg hj], fun b hb => ⟨hb, rfl⟩⟩) (fun o ho => ?_) (.inl ⟨fun _ => rfl, fun o' m' ho hm => ?_⟩) hn
    · rw [get_upd _ _ _ _ hsome, if_pos rfl] at ho
      obtain rfl := Option.some.inj ho
      obtain ⟨S, h1, h2⟩ := vec_RO (h.rs.ob k _ hk)
      exact ⟨S, h1, h2⟩
    · rw [get_upd _ _ _ _ hsome, if_pos rfl] at ho
      obtain rfl := Option.some.inj ho
      exact ⟨_, m', hk, hm, Nat.le_refl _, fun _ => rfl⟩
  · exact h

/-! What moves. -/
def Ob.own : Ob → Bool
  | .vec _ _ _ _ own => own
  | .row _ _ => true
  | _ => false
def allSc : List IV → Bool
  | [] => true
  | .sc _ :: r => allSc r
  | _ => false
theorem allSc_mem {ys : List IV} (h : allSc ys = true) : ∀ x ∈ ys, ∃ v, x = .sc v := by
  induction ys with
  | nil => simp
  | cons x r ih =>
    cases x with
    | sc v =>
      intro y hy
      rcases List.mem_cons.1 hy with rfl | hy
      · exact ⟨v, rfl⟩
      · exact ih h y hy
    | _ => cases h
theorem src_flat {ys : List IV} {vs : List Value} (h : All2 (fun x v => RI w ω x v ∨ ∃ S, RO w x v S) ys vs) (hs : allSc ys = true) (own : Bool) : Src w ω [] own ys vs := by
  have hsc : ∀ (j : Nat) (x : IV) (v : Value), ys[j]? = some x → vs[j]? = some v → ∃ u, x = IV.sc u ∧ v = u ∧ scalarB u = true := fun j x v hx hv => by
    obtain ⟨u, rfl⟩ := allSc_mem hs x (List.mem_of_getElem? hx)
    rcases h.2 j _ v hx hv with hr | ⟨S, hr⟩
    · cases hr with | sc _ hr => exact ⟨_, rfl, rfl, hr⟩
    · obtain ⟨h1, h2⟩ := RO_sc hr; exact ⟨u, rfl, h1, h2⟩
  unfold Src
  split
  · refine ⟨h.1, fun _ _ => False, fun j x v hx hv => ?_, fun _ _ _ _ _ _ h => h.elim, fun _ _ _ h => h.elim⟩
    obtain ⟨u, rfl, rfl, hu⟩ := hsc j x v hx hv
    exact .sc _ _ hu fun _ h => h
  · refine ⟨h.1, fun j x v hx hv => ?_⟩
    obtain ⟨u, rfl, rfl, hu⟩ := hsc j x v hx hv
    exact .sc _ hu

/-- What an append takes: how many elements; their cells; the objects that move; are they its own? 'fl': the elements lead nowhere. -/
def srcM (fl : Bool) (σ : Sto) : TV → Option (Nat × List IV × List Nat × Bool)
  | .c .nl => some (0, [], [], true)
  | .c (.ik _ m ys) => some (m, ys, [], fl)
  | .c (.im (.sl m ys)) => some (m, ys, [], fl)
  | .c (.os k m) => match get σ k with
    | some o => if o.len? = some m then some (m, o.cells, if fl then [] else if o.own then [k] else [], fl || o.own) else none
    | none => none
  | .c (.ov k n off m) => match get σ k with
    | some (.vec t e n' cs own) => if n' = n ∧ (fl || !own) = true then some (m, (cs.drop off).take (m * e), [], fl) else none
    | _ => none
  | _ => none
theorem RI_src {m : Nat} {ys : List IV} {v : Value} (hx : RI w ω (.sl m ys) v) : ∃ ad c vs, v = .slice ad m c ∧ All2 (RI w ω) ys vs ∧ (ad = none → m = 0 ∧ c = 0) ∧ ∀ b, ad = some b → ∀ j u, vs[j]? = some u → w.cell? (b.add j) = some u := by
  cases hx with
  | slnil => exact ⟨none, 0, [], rfl, ⟨rfl, by simp⟩, by simp, by simp⟩
  | sl _ c _ ad vs _ _ _ hc hr =>
    refine ⟨some ad, c, (List.range ys.length).map vs, rfl, ⟨by simp, fun j x y hxj hy => ?_⟩, by simp, fun b hb j u hu => ?_⟩
    · have hj := (List.getElem?_eq_some_iff.1 hxj).1
      have : y = vs j := by simpa [hj] using hy.symm
      subst this
      exact hr j x hxj
    · obtain rfl := Option.some.inj hb
      rw [List.getElem?_map] at hu
      obtain ⟨i, hi, rfl⟩ := Option.map_eq_some_iff.1 hu
      obtain ⟨h1, h2⟩ := List.getElem?_eq_some_iff.1 hi
      simp at h1 h2
      subst h2
      exact hc j h1
theorem srcM_ok (hS : RS w ω κ σ) {fl : Bool} {x : TV} {v : Value} {m : Nat} {ys : List IV} {ks : List Nat} {own : Bool} (h : srcM fl σ x = some (m, ys, ks, own)) (hx : RT w ω κ σ x v) (hf : fl = true → allSc ys = true) :
    ∃ ad c vs, v = .slice ad m c ∧ (∀ own', (own' = own ∨ fl = true ∨ ys = []) → Src w ω ks own' ys vs) ∧ (ad = none → m = 0 ∧ c = 0) ∧ (∀ b, ad = some b → ∀ j u, vs[j]? = some u → w.cell? (b.add j) = some u) := by
  have him : ∀ {v : Value}, RI w ω (.sl m ys) v → ∃ ad c vs, v = .slice ad m c ∧ (∀ own', (own' = fl ∨ fl = true ∨ ys = []) → Src w ω [] own' ys vs) ∧ (ad = none → m = 0 ∧ c = 0) ∧ (∀ b, ad = some b → ∀ j u, vs[j]? = some u → w.cell? (b.add j) = some u) := by
    intro v hx
    obtain ⟨ad, c, vs, h1, h2, h3, h4⟩ := RI_src hx
    refine ⟨ad, c, vs, h1, fun own' ho => ?_, h3, h4⟩
    by_cases hfl : fl = true ∨ ys = []
    · refine src_flat (h2.imp fun _ _ _ h => .inl h) ?_ own'
      rcases hfl with hfl | hfl
      · exact hf hfl
      · rw [hfl]; rfl
    · rcases ho with rfl | ho
      · have : own' = false := by cases own' <;> simp_all
        subst this
        exact h2
      · exact absurd ho hfl
  unfold srcM at h
  split at h
  · injection h with h; injection h with q1 h; injection h with q2 h; injection h with q3 q4
    subst q1; subst q2; subst q3; subst q4
    cases hx
    exact ⟨none, 0, [], rfl, fun own' _ => src_flat ⟨rfl, by simp⟩ rfl own', by simp, by simp⟩
  · injection h with h; injection h with q1 h; injection h with q2 h; injection h with q3 q4
    subst q1; subst q2; subst q3; subst q4
    cases hx with | ik _ _ _ _ hx => exact him hx
  · injection h with h; injection h with q1 h; injection h with q2 h; injection h with q3 q4
    subst q1; subst q2; subst q3; subst q4
    cases hx with | im _ _ hx => exact him hx
  · rename_i k m'
    split at h
    · rename_i o hk
      split at h
      · rename_i hm
        injection h with h; injection h with q1 h; injection h with q2 h; injection h with q3 q4
        subst q1; subst q2; subst q3; subst q4
        cases hx with
        | os _ _ ad c hmc _ hh =>
          have hkk := (hh o _ hk hm).2 rfl
          have hob := hS.ob k o hk
          cases o with
          | box => cases hm
          | vec t e n cs own =>
            obtain rfl := Option.some.inj hm
            obtain ⟨h0, xs, h1, h2, h3⟩ := hob
            have hcl := h3.len
            refine ⟨ad, c, xs, rfl, fun own' ho => ?_, fun hn => ?_, fun b hb j u hu => ?_⟩
            · by_cases hfl : fl = true ∨ cs = []
              · have hsc : allSc cs = true := by
                  rcases hfl with hfl | hfl
                  · exact hf hfl
                  · rw [hfl]; rfl
                have := src_flat (ω := ω) (vs := xs) (by
                  refine ⟨hcl, fun j x v hxj hv => ?_⟩
                  cases own with
                  | true => obtain ⟨_, Ss, g1, _⟩ := (show OwnC w ω k _ cs xs from h3); exact .inr ⟨_, g1 j x v hxj hv⟩
                  | false => exact .inl ((show All2 (RI w ω) cs xs from h3).2 j x v hxj hv)) hsc own'
                unfold Src at this ⊢
                split
                · rename_i ho'; rw [if_pos ho'] at this
                  obtain ⟨g1, T, g2, g3, g4⟩ := this
                  exact ⟨g1, T, g2, g3, fun j b hj hb => by obtain ⟨i, hi, _⟩ := g4 j b hj hb; cases hi⟩
                · rename_i ho'; rw [if_neg ho'] at this; exact this
              · have hfl' : fl = false := by cases fl <;> simp_all
                subst hfl'
                simp only [Ob.cells] at ho hfl
                have ho : own' = own := by
                  rcases ho with ho | ho | ho
                  · simpa [Ob.own] using ho
                  · cases ho
                  · exact absurd (.inr ho) hfl
                subst ho
                simp only [Bool.false_eq_true, if_false, Ob.own, Ob.cells]
                cases own' with
                | false => exact h3
                | true =>
                  obtain ⟨g0, Ss, g1, g2, g3⟩ := (show OwnC w ω k _ cs xs from h3)
                  exact ⟨g0, Ss, g1, g2, fun j b hj hb => ⟨k, by simp, (g3 j b hj hb).1⟩⟩
            · subst hn
              rw [hkk] at h1
              rcases h1.2 with ⟨hn0, a', hv⟩ | ⟨g, cap, cur, hv, _⟩
              · injection hv with _ _ q; exact ⟨hn0, q⟩
              · cases hv
            · subst hb
              exact h1.cells b n c hkk j u hu
          | row n cs =>
            obtain rfl := Option.some.inj hm
            obtain ⟨S, hR, hlab⟩ := hob
            rw [hkk] at hR
            simp only [Ob.own, Ob.cells, Bool.or_true] at *
            cases hR with
            | z => 
              refine ⟨ad, 0, [], rfl, fun own' _ => ?_, fun _ => ⟨rfl, rfl⟩, by simp⟩
              have := src_flat (w := w) (ω := ω) (ys := []) (vs := []) ⟨rfl, by simp⟩ rfl own'
              unfold Src at this ⊢
              split
              · rename_i ho'; rw [if_pos ho'] at this
                obtain ⟨g1, T, g2, g3, g4⟩ := this
                exact ⟨g1, T, g2, g3, fun j b hj hb => by simp at hj⟩
              · rename_i ho'; rw [if_neg ho'] at this; exact this
            | sl _ _ g t arr _ Ss _ hg hc hnc hcm hsz g1 g2 g3 g4 =>
              have hget : ∀ j x v, cs[j]? = some x → (arr.toList.take cs.length)[j]? = some v → RO w x v (Ss j) := fun j x v hxj hv => by
                have hj := (List.getElem?_eq_some_iff.1 hxj).1
                have := g1 j x hxj
                rw [List.getElem?_take_of_lt hj] at hv
                have hv' : arr.getD j undef = v := by
                  simp only [Array.getElem?_toList] at hv
                  simp [Array.getD_eq_getD_getElem?, hv]
                rw [hv'] at this; exact this
              refine ⟨some ⟨g, 0, none⟩, c, arr.toList.take cs.length, rfl, fun own' ho => ?_, by simp, fun b hb j u hu => ?_⟩
              · by_cases hfl : fl = true ∨ cs = []
                · have hsc : allSc cs = true := by
                    rcases hfl with hfl | hfl
                    · exact hf hfl
                    · rw [hfl]; rfl
                  have := src_flat (w := w) (ω := ω) (ys := cs) (vs := arr.toList.take cs.length) ⟨by simp; omega, fun j x v hxj hv => .inr ⟨_, hget j x v hxj hv⟩⟩ hsc own'
                  unfold Src at this ⊢
                  split
                  · rename_i ho'; rw [if_pos ho'] at this
                    obtain ⟨q1, T, q2, q3, q4⟩ := this
                    exact ⟨q1, T, q2, q3, fun j b hj hb => by obtain ⟨i, hi, _⟩ := q4 j b hj hb; cases hi⟩
                  · rename_i ho'; rw [if_neg ho'] at this; exact this
                · have hfl' : fl = false := by cases fl <;> simp_all
                  subst hfl'
                  have ho : own' = true := by
                    rcases ho with ho | ho | ho
                    · exact ho
                    · cases ho
                    · exact absurd (.inr ho) hfl
                  subst ho
                  simp only [Bool.false_eq_true, if_false, if_true]
                  exact ⟨by simp; omega, Ss, hget, g3, fun j b hj hb => ⟨k, by simp, hlab b ((g4 b).2 (.inr ⟨j, hj, hb⟩))⟩⟩
              · obtain rfl := Option.some.inj hb
                rw [addr_add_lit, cell_row hg]
                have hj : j < cs.length := by have := (List.getElem?_eq_some_iff.1 hu).1; simp at this; omega
                rw [List.getElem?_take_of_lt hj] at hu
                simpa using hu
      · cases h
    · cases h
  · rename_i k n off m'
    split at h
    · rename_i t e n' cs own hk
      split at h
      · rename_i hc
        injection h with h; injection h with q1 h; injection h with q2 h; injection h with q3 q4
        subst q1; subst q2; subst q3; subst q4
        obtain ⟨rfl, hfo⟩ := hc
        cases hx with
        | ov _ _ _ _ ad c hmc _ hh =>
          have hov := (hh _ _ hk rfl).2 rfl
          obtain ⟨h0, xs, h1, h2, h3⟩ := hS.ob k _ hk
          have hcl := h3.len
          have hlx : ((cs.drop off).take (m' * e)).length = ((xs.drop off).take (m' * e)).length := by simp [hcl]
          have hgx : ∀ j v, ((xs.drop off).take (m' * e))[j]? = some v → j < m' * e ∧ xs[off + j]? = some v := fun j v hv => by
            have hj : j < m' * e := by have := (List.getElem?_eq_some_iff.1 hv).1; simp at this; omega
            rw [List.getElem?_take_of_lt hj, List.getElem?_drop] at hv
            exact ⟨hj, hv⟩
          have hgc : ∀ j x, ((cs.drop off).take (m' * e))[j]? = some x → cs[off + j]? = some x := fun j v hv => by
            have hj : j < m' * e := by have := (List.getElem?_eq_some_iff.1 hv).1; simp at this; omega
            rw [List.getElem?_take_of_lt hj, List.getElem?_drop] at hv
            exact hv
          refine ⟨ad, c, (xs.drop off).take (m' * e), rfl, fun own' ho => ?_, fun hn => ?_, fun b hb j u hu => ?_⟩
          · have hall : All2 (fun x v => RI w ω x v ∨ ∃ S, RO w x v S) ((cs.drop off).take (m' * e)) ((xs.drop off).take (m' * e)) := ⟨hlx, fun j x v hxj hv => by
              cases own with
              | true => obtain ⟨_, Ss, g1, _⟩ := (show OwnC w ω k _ cs xs from h3); exact .inr ⟨_, g1 _ x v (hgc j x hxj) (hgx j v hv).2⟩
              | false => exact .inl ((show All2 (RI w ω) cs xs from h3).2 _ x v (hgc j x hxj) (hgx j v hv).2)⟩
            by_cases hfl : fl = true ∨ (cs.drop off).take (m' * e) = []
            · refine src_flat hall ?_ own'
              rcases hfl with hfl | hfl
              · exact hf hfl
              · rw [hfl]; rfl
            · have hfl' : fl = false := by cases fl <;> simp_all
              subst hfl'
              have ho : own' = false := by
                rcases ho with ho | ho | ho
                · exact ho
                · cases ho
                · exact absurd (.inr ho) hfl
              subst ho
              have hown : own = false := by simpa using hfo
              subst hown
              exact ⟨hlx, fun j x v hxj hv => (show All2 (RI w ω) cs xs from h3).2 _ x v (hgc j x hxj) (hgx j v hv).2⟩
          · subst hn
            obtain ⟨_, _, g3, _⟩ := hov
            rcases Nat.eq_zero_or_pos c with rfl | hc
            · exact ⟨by omega, rfl⟩
            · obtain ⟨_, _, _, _, q⟩ := g3 hc; cases q
          · subst hb
            obtain ⟨hj, hv⟩ := hgx j u hu
            obtain ⟨_, _, g3, _⟩ := hov
            have hm0 : 0 < m' := by
              rcases Nat.eq_zero_or_pos m' with rfl | h
              · simp at hj
              · exact h
            obtain ⟨b', l', c', hk', hb'⟩ := g3 (by omega)
            obtain rfl := Option.some.inj hb'
            have := h1.cells _ _ _ hk' (off + j) u hv
            rw [addr_add_lit] at this
            rw [Addr.add_lit]; exact this
      · cases h
    · cases h
  · cases h

/-- The cells of a new row, that are its own from now on: their trees; the objects that move. -/
def ownC (σ : Sto) : List Cell → Option (List IV × List Nat)
  | [] => some ([], [])
  | .im (.sc v) :: r => (ownC σ r).map fun q => (.sc v :: q.1, q.2)
  | .nl :: r => (ownC σ r).map fun q => (.sl 0 [] :: q.1, q.2)
  | .os k n :: r => (ownC σ r).bind fun q => match get σ k with
    | some o => if o.len? = some n ∧ o.own = true ∧ k ∉ q.2 then some (.sl n o.cells :: q.1, k :: q.2) else none
    | none => none
  | _ => none
theorem ob_RO {k n : Nat} {o : Ob} (h : ObOk w ω κ σ k o) (hm : o.len? = some n) (ho : o.own = true) : ∃ S, RO w (.sl n o.cells) (κ k) S ∧ ∀ b, S b → ω b = .ob k := by
  cases o with
  | box => cases hm
  | vec t e m cs own =>
    obtain rfl := Option.some.inj hm
    obtain rfl : own = true := ho
    exact vec_RO h
  | row m cs =>
    obtain rfl := Option.some.inj hm
    exact h
theorem ownC_ok (hS : RS w ω κ σ) : ∀ {cs : List Cell} {ys : List IV} {ks : List Nat} {vs : List Value}, ownC σ cs = some (ys, ks) → All2 (RC w ω κ σ) cs vs → Src w ω ks true ys vs
  | [], ys, ks, vs, h, hv => by
    injection h with h; injection h with q1 q2; subst q1; subst q2
    have : vs = [] := List.eq_nil_of_length_eq_zero hv.1.symm
    subst this
    exact ⟨rfl, fun _ _ => False, by simp, by simp, by simp⟩
  | c :: r, ys, ks, [], h, hv => by simp [All2] at hv
  | c :: r, ys, ks, v :: vs, h, hv => by
    have fin : ∀ {x : IV} {S : Nat → Prop} {q : List IV × List Nat} {ks' : List Nat}, RO w x v S → ownC σ r = some q → (∀ b, S b → ∃ i ∈ ks', i ∉ q.2 ∧ ω b = .ob i) → (∀ i ∈ q.2, i ∈ ks') → Src w ω ks' true (x :: q.1) (v :: vs) := by
      intro x S q ks' hR hq hSk hsub
      obtain ⟨g0, T, g1, g2, g3⟩ := ownC_ok hS (ys := q.1) (ks := q.2) hq hv.tail
      have hdis : ∀ b j, S b → j < q.1.length → ¬ T j b := fun b j hb hj hT => by
        obtain ⟨i, hi, hn, hib⟩ := hSk b hb
        obtain ⟨i', hi', hib'⟩ := g3 j b hj hT
        rw [hib] at hib'; injection hib' with e; exact hn (e ▸ hi')
      refine ⟨by simp [g0], fun j => match j with | 0 => S | j + 1 => T j, fun j x' v' hx hv' => ?_, fun i j b hi hj hij hb hb' => ?_, fun j b hj hb => ?_⟩
      · cases j with
        | zero => simp at hx hv'; subst hx; subst hv'; exact hR
        | succ j => exact g1 j x' v' (by simpa using hx) (by simpa using hv')
      · cases i with
        | zero => cases j with
          | zero => exact hij rfl
          | succ j => exact hdis b j hb (by simpa using hj) hb'
        | succ i => cases j with
          | zero => exact hdis b i hb' (by simpa using hi) hb
          | succ j => exact g2 i j b (by simpa using hi) (by simpa using hj) (by omega) hb hb'
      · cases j with
        | zero => obtain ⟨i, hi, _, hib⟩ := hSk b hb; exact ⟨i, hi, hib⟩
        | succ j => obtain ⟨i, hi, hib⟩ := g3 j b (by simpa using hj) hb; exact ⟨i, hsub i hi, hib⟩
    unfold ownC at h
    split at h
    · rename_i heq; cases heq
    · rename_i u r' heq
      obtain ⟨rfl, rfl⟩ := List.cons.inj heq
      obtain ⟨q, hq, h⟩ := Option.map_eq_some_iff.1 h
      injection h with q1 q2; subst q1; subst q2
      cases hv.head with
      | im _ _ hx => cases hx with | sc _ hs => exact fin (S := fun _ => False) (.sc _ _ hs fun _ h => h) hq (fun _ h => h.elim) fun _ h => h
    · rename_i r' heq
      obtain ⟨rfl, rfl⟩ := List.cons.inj heq
      obtain ⟨q, hq, h⟩ := Option.map_eq_some_iff.1 h
      injection h with q1 q2; subst q1; subst q2
      cases hv.head
      exact fin (S := fun _ => False) (.z none _ fun _ h => h) hq (fun _ h => h.elim) fun _ h => h
    · rename_i k n r' heq
      obtain ⟨rfl, rfl⟩ := List.cons.inj heq
      obtain ⟨q, hq, h⟩ := Option.bind_eq_some_iff.1 h
      split at h
      · rename_i o hk
        split at h
        · rename_i hc
          injection h with h; injection h with q1 q2; subst q1; subst q2
          obtain ⟨S, hR, hS'⟩ := ob_RO (hS.ob k o hk) hc.1 hc.2.1
          cases hv.head with
          | os _ _ ad c hnc _ hh =>
            rw [(hh o n hk hc.1).2 rfl] at hR
            exact fin hR hq (fun b hb => ⟨k, by simp, hc.2.2, hS' b hb⟩) fun i hi => by simp [hi]
        · cases h
      · cases h
    · cases h
theorem ownC_keys : ∀ {cs : List Cell} {ys : List IV} {ks : List Nat}, ownC σ cs = some (ys, ks) → ∀ k ∈ ks, (get σ k).isSome = true
  | [], ys, ks, h => by injection h with h; injection h with q1 q2; subst q2; simp
  | c :: r, ys, ks, h => by
    unfold ownC at h
    split at h
    · rename_i heq; cases heq
    · rename_i u r' heq
      obtain ⟨rfl, rfl⟩ := List.cons.inj heq
      obtain ⟨q, hq, h⟩ := Option.map_eq_some_iff.1 h
      injection h with q1 q2; subst q2
      exact ownC_keys (ys := q.1) (ks := q.2) hq
    · rename_i r' heq
      obtain ⟨rfl, rfl⟩ := List.cons.inj heq
      obtain ⟨q, hq, h⟩ := Option.map_eq_some_iff.1 h
      injection h with q1 q2; subst q2
      exact ownC_keys (ys := q.1) (ks := q.2) hq
    · rename_i k n r' heq
      obtain ⟨rfl, rfl⟩ := List.cons.inj heq
      obtain ⟨q, hq, h⟩ := Option.bind_eq_some_iff.1 h
      split at h
      · rename_i o hk
        split at h
        · injection h with h; injection h with q1 q2; subst q2
          intro j hj
          rcases List.mem_cons.1 hj with rfl | hj
          · rw [hk]; rfl
          · exact ownC_keys (ys := q.1) (ks := q.2) hq j hj
        · cases h
      · cases h
    · cases h
end
end Go.VC
