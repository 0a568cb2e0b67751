/- Operations: what each comes to, over a frame's variables and objects. -/
import Derived.Test.YtdedakeldfgjbaaV5
set_option linter.unusedSimpArgs false
set_option linter.unusedVariables false
namespace Go.VC
open Go Go.RowKit
section
variable {w w' : World} {D D' D0 : Nat → Prop} {κ κ' : Nat → Value} {σ : Sto} {E : Env} {a : Act} {B : Nat} {w0 : World} {s : St} {P : Program}

/-- A slice type's element type, its cells, its bytes, its zero value. -/
def apOf (P : Program) (t : TypeId) : Option (TypeId × Nat × Nat × List Value) :=
  match P.underlying t with
  | some (.slice e) => match P.info? e with
    | some i => match i.zero with
      | some z => if z.cells.size = i.size ∧ 0 < i.size ∧ z.cells.all (·.oneCell') then some (e, i.size, i.bytes, z.cells.toList) else none
      | none => none
    | none => none
  | _ => none
theorem apOf_some {t e : TypeId} {sz by_ : Nat} {zs : List Value} (h : apOf P t = some (e, sz, by_, zs)) :
    ∃ i z, P.underlying t = some (.slice e) ∧ P.info? e = some i ∧ i.zero = some z ∧ z.cells.size = i.size ∧ 0 < i.size ∧ i.size = sz ∧ i.bytes = by_ ∧ z.cells.toList = zs ∧ ∀ u ∈ zs, u.oneCell' = true := by
  unfold apOf at h
  split at h
  · rename_i e' hu
    split at h
    · rename_i i hi
      split at h
      · rename_i z hz
        split at h
        · rename_i hc
          obtain ⟨h1, h2, h3⟩ := hc
          injection h with h
          injection h with q1 h
          injection h with q2 h
          injection h with q3 q4
          subst q1; subst q2; subst q3; subst q4
          exact ⟨i, z, hu, hi, hz, h1, h2, rfl, rfl, rfl, fun u hu => Array.all_eq_true_iff_forall_mem.1 h3 u (by simpa using hu)⟩
        · cases h
      · cases h
    · cases h
  · cases h

theorem All2.append {α β : Type} {R : α → β → Prop} {xs xs' : List α} {ys ys' : List β} (h : All2 R xs ys) (h' : All2 R xs' ys') : All2 R (xs ++ xs') (ys ++ ys') := by
  refine ⟨by simp [h.1, h'.1], fun j x y hx hy => ?_⟩
  by_cases hj : j < xs.length
  · rw [List.getElem?_append_left hj] at hx
    rw [List.getElem?_append_left (by rw [← h.1]; exact hj)] at hy
    exact h.2 j x y hx hy
  · rw [List.getElem?_append_right (by omega)] at hx
    rw [List.getElem?_append_right (by rw [← h.1]; omega)] at hy
    rw [h.1] at hx
    exact h'.2 _ x y hx hy
theorem All2.one {xs : List IV} {vs : List Value} (h : All2 (RI w D) xs vs) : ∀ u ∈ vs, u.oneCell' = true := fun u hu => by
  obtain ⟨j, hj⟩ := List.getElem?_of_mem hu
  have hl : j < xs.length := by rw [h.1]; exact (List.getElem?_eq_some_iff.1 hj).1
  exact (h.2 j xs[j] u (by simp [hl]) hj).one
theorem ownsRow_slice {t : TypeId} {e n : Nat} {v : Value} {xs : List Value} (h : w.ownsRow B t e v n xs) : ∃ ad c, v = .slice ad n c := by
  rcases h.2 with ⟨h1, h2⟩ | ⟨g, cap, cur, h1, _⟩
  · exact ⟨none, 0, by rw [h1, h2]⟩
  · exact ⟨_, _, h1⟩

/-- An append to a row of the call's own. -/
theorem Rel.append (h : Rel B D0 w0 D κ s a w) {k n m : Nat} {t ty e : TypeId} {sz by_ : Nat} {zs : List Value} {cs ys : List IV} (ht : apOf P t = some (e, sz, by_, zs)) (hk : get s.σ k = some (.vec e sz n cs))
    {ad : Option Addr} {c : Nat} {vs : List Value} (hy : All2 (RI w D) ys vs) (hnil : ad = none → m = 0 ∧ c = 0) (hl : ys.length = m * sz)
    (hcell : ∀ b, ad = some b → ∀ j u, vs[j]? = some u → w.cell? (b.add j) = some u) (h63 : n + m ≤ maxLen) (hbytes : (n + m) * by_ ≤ 140737488355328) :
    ∃ v' w' κ', (Builtin.append_ #[t, t] ty #[κ k, .slice ad m c]).run P w = .ok v' w' ∧ Rel B D0 w0 D κ' ⟨s.N, s.E, upd s.σ k (.vec e sz (n + m) (cs ++ ys))⟩ a w' ∧ κ' k = v' ∧ ∃ ad c, v' = .slice ad (n + m) c := by
  obtain ⟨i, z, hu, hi, hz, hzs, hpos, rfl, rfl, rfl, hone⟩ := apOf_some ht
  obtain ⟨h0, xs, hown, hcs⟩ := h.rs.vec k e _ n cs hk
  have hB : B ≤ w.heap.size := by rw [h.low]; exact h.below.size
  obtain ⟨v', w', hr, ho, hg, hsame, hb⟩ := append_blk (P := P) (ty := ty) hu hi hz hzs hpos hown ad m c vs hnil (by rw [← hy.1]; exact hl) hcell hy.one h63 hbytes hB
  obtain ⟨ad', c', hsl⟩ := ownsRow_slice ho
  have hsome : (get s.σ k).isSome = true := by rw [hk]; rfl
  have hrow : ∀ b, (κ k).ownBlock = some b → (get s.σ k).isSome = true ∧ blk (κ k) = some b := fun b hb => ⟨hsome, blk_of_own hb⟩
  have hblk : blk v' = v'.ownBlock := by rw [hsl, blk_slice]
  refine ⟨v', w', fun j => if j = k then v' else κ j, hr, ?_, by simp, ad', c', hsl⟩
  have hDw : ∀ b, D b → w'.heap[b]? = w.heap[b]? := fun b hb => hg.block b (h.rs.dom b hb) fun e => by
    obtain ⟨h1, h2⟩ := hrow b e.symm
    exact h.rs.apart k b h1 h2 hb
  have hkey : ∀ j, KeyOk κ s.σ (fun j => if j = k then v' else κ j) (upd s.σ k (.vec e i.size (n + m) (cs ++ ys))) j := by
    intro j
    by_cases hj : j = k
    · subst hj
      refine ⟨fun b hb => ?_, fun t' e' m' cs' hgt => ?_⟩
      · obtain ⟨q, r, hs⟩ := ownsRow_slice hown
        rw [hs] at hb; cases hb
      · rw [get_upd _ _ _ _ hsome, if_pos rfl] at hgt
        injection hgt with hgt
        injection hgt with q1 q2 q3 q4
        subst q1; subst q2; subst q3
        refine ⟨n, cs, hk, by omega, fun hnm => ?_⟩
        rcases hsame with ⟨h1, _⟩ | h1
        · simpa using h1
        · omega
    · refine ⟨fun _ _ => by simp [hj], fun t' e' m' cs' hgt => ?_⟩
      rw [get_upd _ _ _ _ hsome, if_neg hj] at hgt
      exact ⟨m', cs', hgt, Nat.le_refl _, fun _ => by simp [hj]⟩
  refine ⟨h.below.grown hg hB (fun b hb => (hown.lt b hb).1), h.low, h.grow, h.new, h.defers, h.size, h.env.step hDw fun _ _ _ j _ => hkey j, ?_⟩
  refine RS.turn k h.rs hg hrow (fun j hj => by simp [hj]) (fun j hj => by rw [get_upd _ _ _ _ hsome, if_neg hj]) (fun j _ _ _ _ _ _ i _ => hkey i) (fun b _ hb' => ?_) (fun t' cs' hgt => ?_) (fun t' e' n' cs' hgt => ?_)
  · simp only [if_true] at hb'
    rw [hblk] at hb'
    rcases hb b hb' with h1 | h1
    · exact .inr ⟨hsome, blk_of_own h1⟩
    · exact .inl h1
  · rw [get_upd _ _ _ _ hsome, if_pos rfl] at hgt
    injection hgt with hgt; cases hgt
  · rw [get_upd _ _ _ _ hsome, if_pos rfl] at hgt
    injection hgt with hgt
    injection hgt with q1 q2 q3 q4
    subst q1; subst q2; subst q3; subst q4
    exact ⟨hpos, xs ++ vs, by simpa using ho, (hcs.imp fun x y _ hxy => hxy.kept (fun _ h => h) hDw).append (hy.imp fun x y _ hxy => hxy.kept (fun _ h => h) hDw)⟩

/-- A store into a row of the call's own. -/
theorem Rel.stVec (h : Rel B D0 w0 D κ s a w) {k off n e : Nat} {t : TypeId} {cs ys : List IV} {vs : List Value} (hk : get s.σ k = some (.vec t e n cs)) (hn : All2 (RI w D) ys vs)
    (hl : off + ys.length ≤ cs.length) (P : Program) (hne : 0 < ys.length) : ∃ b n' c w', κ k = .slice (some ⟨b, 0, none⟩) n' c ∧ (storeCells ⟨b, off, none⟩ vs).run P w = .ok () w' ∧
      Rel B D0 w0 D κ ⟨s.N, s.E, upd s.σ k (.vec t e n (setL cs off ys))⟩ a w' := by
  obtain ⟨h0, xs, hown, hcs⟩ := h.rs.vec k t e n cs hk
  rcases hown.2 with ⟨hv, hz⟩ | ⟨b, cap, cur, hv, hb, hheap, hnc, hcm, hcur, htake⟩
  · have h1 : xs.length = 0 := by rw [hown.1, hz]; simp
    have h2 := hcs.1
    omega
  have hlen : cs.length = n * e := by rw [hcs.1, hown.1]
  have hcl : n * e ≤ cur.size := by rw [hcur]; exact Nat.mul_le_mul_right _ hnc
  have hnl : ys.length = vs.length := hn.1
  have hrun := run_storeCells_at P b off t vs 0 cur w hheap (by omega) hn.one
  simp only [Nat.add_zero] at hrun
  have hlist : cur.toList.take off ++ vs ++ cur.toList.drop (off + vs.length) = setL cur.toList off vs := (setL_eq vs cur.toList off (by simp; omega)).symm
  rw [hlist] at hrun
  refine ⟨b, n, cap, _, hv, hrun, ?_⟩
  have hg := setRow_grown w b (setL cur.toList off vs).toArray
  have hsome : (get s.σ k).isSome = true := by rw [hk]; rfl
  have hkb : blk (κ k) = some b := by rw [hv]; rfl
  have hDw : ∀ c, D c → (w.setRow b (setL cur.toList off vs).toArray).heap[c]? = w.heap[c]? := fun c hc => hg.block c (h.rs.dom c hc) fun e => by
    obtain rfl := Option.some.inj e
    exact h.rs.apart k c hsome hkb hc
  have hkey : ∀ j, KeyOk κ s.σ κ (upd s.σ k (.vec t e n (setL cs off ys))) j := fun j => by
    refine ⟨fun _ _ => rfl, fun t' e' m' cs' hgt => ?_⟩
    rw [get_upd _ _ _ _ hsome] at hgt
    split at hgt
    · rename_i hj
      subst hj
      injection hgt with hgt
      injection hgt with q1 q2 q3 q4
      subst q1; subst q2; subst q3
      exact ⟨n, cs, hk, Nat.le_refl _, fun _ => rfl⟩
    · exact ⟨m', cs', hgt, Nat.le_refl _, fun _ => rfl⟩
  have htake' : (setL cur.toList off vs).take (n * e) = setL xs off vs := by
    rw [setL_eq vs cur.toList off (by simp; omega), setL_eq vs xs off (by rw [hown.1]; omega), ← htake]
    apply List.ext_getElem?
    intro j
    by_cases hj : j < n * e
    · rw [List.getElem?_take_of_lt hj]
      by_cases h1 : j < off
      · simp [List.getElem?_append, List.getElem?_take, h1, hj, Nat.min_eq_left (show off ≤ cur.size by omega), Nat.min_eq_left (show off ≤ n * e by omega), Nat.min_eq_left hcl, show j < off + vs.length by omega]
      · by_cases h2 : j < off + vs.length
        · simp [List.getElem?_append, List.getElem?_take, h1, hj, Nat.min_eq_left (show off ≤ cur.size by omega), Nat.min_eq_left (show off ≤ n * e by omega), Nat.min_eq_left hcl, h2, show j - off < vs.length by omega]
        · obtain ⟨d, rfl⟩ : ∃ d, j = off + vs.length + d := ⟨j - (off + vs.length), by omega⟩
          have e1 : off + vs.length + d - (off + vs.length) = d := by omega
          rw [List.getElem?_append_right (by simp; omega), List.getElem?_append_right (by simp; omega)]
          simp only [List.length_append, List.length_take, Array.length_toList, Nat.min_eq_left (show off ≤ cur.size by omega), e1, List.getElem?_drop, Nat.min_eq_left hcl, Nat.min_eq_left (show off ≤ n * e by omega)]
          rw [List.getElem?_take_of_lt hj]
    · rw [List.getElem?_eq_none (by simp; omega), List.getElem?_eq_none (by simp; omega)]
  refine ⟨h.below.grown hg (by rw [h.low]; exact h.below.size) (fun c hc => by obtain rfl := Option.some.inj hc; exact hb), h.low, h.grow, h.new, h.defers, h.size, h.env.step hDw fun _ _ _ j _ => hkey j, ?_⟩
  refine RS.turn k h.rs hg (fun c hc => ⟨hsome, by rw [hkb]; exact hc⟩) (fun _ _ => rfl) (fun j hj => by rw [get_upd _ _ _ _ hsome, if_neg hj]) (fun j _ _ _ _ _ _ i _ => hkey i) (fun c _ hc => .inr ⟨hsome, hc⟩) (fun t' cs' hgt => ?_) (fun t' e' n' cs' hgt => ?_)
  · rw [get_upd _ _ _ _ hsome, if_pos rfl] at hgt
    injection hgt with hgt; cases hgt
  · rw [get_upd _ _ _ _ hsome, if_pos rfl] at hgt
    injection hgt with hgt
    injection hgt with q1 q2 q3 q4
    subst q1; subst q2; subst q3; subst q4
    refine ⟨h0, setL xs off vs, ⟨by rw [setL_len]; exact hown.1, .inr ⟨b, cap, (setL cur.toList off vs).toArray, hv, hb, setRow_heap w b cur _ t (0, 0) hheap, hnc, hcm, by simp [setL_len]; exact hcur, by simpa using htake'⟩⟩, ?_⟩
    exact (hn.imp fun x y _ hxy => hxy.kept (fun _ h => h) hDw).setL off (hcs.imp fun x y _ hxy => hxy.kept (fun _ h => h) hDw)
end
end Go.VC
