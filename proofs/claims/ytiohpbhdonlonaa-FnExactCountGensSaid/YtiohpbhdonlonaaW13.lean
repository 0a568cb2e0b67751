/- Each operation does in the machine what it comes to in a frame: all of them. -/
import Derived.Test.YtiohpbhdonlonaaW12
set_option linter.unusedSimpArgs false
set_option linter.unusedVariables false
namespace Go.VC
open Go Go.RowKit
section
variable {β : Base} {w w' : World} {ω ω' : Lab} {κ κ' : Nat → Value} {σ σ' : Sto} {E : Env} {a : Act} {s : St} {P : Program}

theorem noE_nn {k : Nat} (hE : noE k E = true) : nnE k E = true := by
  induction E with
  | nil => rfl
  | cons p r ih =>
    obtain ⟨u, x⟩ := p
    simp only [noE, Bool.and_eq_true, Bool.not_eq_true'] at hE
    simp only [nnE, Bool.and_eq_true, Bool.not_eq_true']
    refine ⟨?_, ih hE.2⟩
    cases hx : x.hasN k with
    | false => rfl
    | true => rw [hasNT_has k x hx] at hE; exact hE.1
theorem Rel.even (h : Rel β ω κ s a w) (d : Nat) : (get β.σ (2 * d)).isSome = false := by
  cases hh : (get β.σ (2 * d)).isSome with
  | false => rfl
  | true => have := h.odd _ hh; omega
/-- A slice of a row's cells: its value reads so. -/
theorem os_new {k n : Nat} {v : Value} {o : Ob} (hs : ∃ a c, v = .slice a n c ∧ n ≤ c ∧ (a = none → c = 0)) (hg : get σ k = some o) (hm : o.len? = some n) (hk : κ k = v) : RC w ω κ σ (.os k n) v := by
  obtain ⟨a, c, rfl, h1, h2⟩ := hs
  refine .os k n a c h1 h2 fun o' m' ho hm' => ?_
  rw [hg] at ho
  obtain rfl := Option.some.inj ho
  rw [hm] at hm'
  obtain rfl := Option.some.inj hm'
  exact ⟨Nat.le_refl _, fun _ => hk⟩
theorem RowOk.sl {t : TypeId} {e n : Nat} {v : Value} {xs : List Value} (h : RowOk w t e v n xs) : ∃ a c, v = .slice a n c ∧ n ≤ c ∧ (a = none → c = 0) := by
  obtain ⟨a, c, h1, h2, _, h3⟩ := h.slice
  exact ⟨a, c, h1, h2, h3⟩
/-- A new row, in a variable. -/
theorem Rel.newRowE (h : Rel β ω κ s a w) {d n e : Nat} {t : TypeId} {ys : List IV} {own : Bool} {ks : List Nat} {v : Value} {vs : List Value} (hd : d < s.N) (he : 0 < e) (hg : w.grownBy w' none) (hv : RowOk w' t e v n vs) (hvb : ∀ b, rowB v = some b → w.heap.size ≤ b)
    (hy : Src w ω ks own ys vs) (hkk : 2 * d ∉ ks) (hE : noE (2 * d) s.E = true) (hS : noS (2 * d) s.σ = true) :
    RelE β ⟨s.N, (d, .c (.os (2 * d) n)) :: s.E, (2 * d, .vec t e n ys own) :: delL s.σ ks⟩ (a.put (some d) v) w' := by
  have h1 := h.newRow (k := 2 * d) (xs := []) he hg hv hvb hy hkk (h.even d) hE hS
  exact ⟨_, _, h1.put hd (os_new hv.sl (by rw [get_cons, if_pos rfl]) rfl (setK_eq _ _ _))⟩
/-- An append to a row, in a variable. -/
theorem Rel.appendE (h : Rel β ω κ s a w) {d k n m : Nat} {t ty e : TypeId} {sz by_ : Nat} {zs : List Value} {cs ys : List IV} {own : Bool} {ks : List Nat} (hd : d < s.N) (ht : apOf P t = some (e, sz, by_, zs)) (hk : get s.σ k = some (.vec e sz n cs own))
    {ad : Option Addr} {c : Nat} {vs : List Value} (hy : Src w ω ks own ys vs) (hkk : k ∉ ks) (hnil : ad = none → m = 0 ∧ c = 0) (hl : ys.length = m * sz)
    (hcell : ∀ b, ad = some b → ∀ j u, vs[j]? = some u → w.cell? (b.add j) = some u) (h63 : n + m ≤ maxLen) (hbytes : (n + m) * by_ ≤ 140737488355328) (hnn : nnE k s.E = true) :
    ∃ v' w', (Builtin.append_ #[t, t] ty #[κ k, .slice ad m c]).run P w = .ok v' w' ∧ RelE β ⟨s.N, (d, .c (.os k (n + m))) :: s.E, upd (delL s.σ ks) k (.vec e sz (n + m) (cs ++ ys) own)⟩ (a.put (some d) v') w' := by
  obtain ⟨v', w', h1, h2, h3⟩ := h.append (ty := ty) ht hk hy hkk hnil hl hcell h63 hbytes hnn
  have hsome : (get (delL s.σ ks) k).isSome = true := by rw [get_delL, if_neg hkk, hk]; rfl
  exact ⟨v', w', h1, _, _, h2.put hd (os_new h3 (by rw [get_upd _ _ _ _ hsome, if_pos rfl]) rfl (setK_eq _ _ _))⟩
/-- The state in which a row's trees are all's; its labels. -/
theorem Rel.shareK (h : Rel β ω κ s a w) {k : Nat} {t : TypeId} {e n : Nat} {cs : List IV} (hk : get s.σ k = some (.vec t e n cs true)) (hn : nnE k s.E = true) :
    ∃ ω', Rel β ω' κ ⟨s.N, s.E, upd s.σ k (.vec t e n cs false)⟩ a w ∧ (∀ b, ω b = .im → ω' b = .im) := by
  have hsome : (get s.σ k).isSome = true := by rw [hk]; rfl
  obtain ⟨ω', h'⟩ := h.share k hn
  have e1 : s.share k = ⟨s.N, s.E, upd s.σ k (.vec t e n cs false)⟩ := by unfold St.share; rw [hk]
  rw [e1] at h'
  obtain ⟨h0, xs, h1, h2, h3⟩ := h.rs.ob k _ hk
  obtain ⟨h4, Ss, h5, h6, h7⟩ : OwnC w ω k (rowB (κ k)) cs xs := h3
  refine ⟨fun b => if ω b = .ob k ∧ some b ≠ rowB (κ k) then .im else ω b, h.change k ⟨rfl, rfl, rfl, Nat.le_refl _, fun _ _ _ => rfl, fun b hb => by simp [hb], fun b _ hb => by simp [hb]⟩ (fun b hb => ?_) (fun _ _ => rfl) (fun j hj => .inr ⟨by rw [get_upd _ _ _ _ hsome, if_neg hj], fun b hb => ⟨by rw [if_neg (by rw [hb]; simp; intro e; exact absurd e hj), hb], rfl⟩⟩) (fun o ho => ?_) (.inl ⟨fun _ => rfl, fun o' m' ho hm => ?_⟩) hn, fun b hb => by simp [hb]⟩
  · split at hb
    · rename_i hc; exact h.rs.dom b (by rw [hc.1]; simp)
    · exact h.rs.dom b hb
  · rw [get_upd _ _ _ _ hsome, if_pos rfl] at ho
    obtain rfl := Option.some.inj ho
    refine ⟨h0, xs, h1, fun b hb => by show (if ω b = .ob k ∧ some b ≠ rowB (κ k) then Lb.im else ω b) = _; rw [if_neg (by rw [hb]; simp)]; exact h2 b hb, ?_⟩
    refine ⟨h4, fun j x v hx hv => (h5 j x v hx hv).im fun b hb => ?_⟩
    have := h7 j b (List.getElem?_eq_some_iff.1 hx).1 hb
    show (if ω b = .ob k ∧ some b ≠ rowB (κ k) then Lb.im else ω b) = _
    rw [if_pos this]
  · rw [get_upd _ _ _ _ hsome, if_pos rfl] at ho
    obtain rfl := Option.some.inj ho
    exact ⟨_, m', hk, hm, Nat.le_refl _, fun _ => rfl⟩
theorem upd_upd {α : Type} (σ : List (Nat × α)) (k : Nat) (o o' : α) : upd (upd σ k o) k o' = upd σ k o' := by
  induction σ with
  | nil => rfl
  | cons p r ih =>
    obtain ⟨j, q⟩ := p
    simp only [upd]
    by_cases h : k = j
    · simp [h, upd]
    · simp [h, upd, ih]

/-- The front of a row under a new name. -/
theorem Rel.trunc (h : Rel β ω κ s a w) {d k n q e : Nat} {t : TypeId} {cs : List IV} {own : Bool} {c : Nat} {ad : Option Addr} (hk : get s.σ k = some (.vec t e n cs own)) (hkd : k ≠ 2 * d) (hE : noE (2 * d) s.E = true) (hS : noS (2 * d) s.σ = true) (hqn : q ≤ n) (hcl : cs.length = n * e)
    (hv : ∃ l, κ k = .slice ad l c) (hqc : q ≤ c) :
    ∃ ω' κ', Rel β ω' κ' ⟨s.N, s.E, (2 * d, .vec t e q (cs.take (q * e)) own) :: del s.σ k⟩ a w ∧ κ' (2 * d) = .slice ad q c ∧ (∀ b, ω b = .im → ω' b = .im) ∧ ∀ b j, ω b = .ob j → j ≠ k → ω' b = .ob j := by
  obtain ⟨h0, xs, h1, h2, h3⟩ := h.rs.ob k _ hk
  obtain ⟨l, hv⟩ := hv
  have hcx := h3.len
  have hlab : ∀ b, ω b = .ob k → relab ω [k] (2 * d) b = .ob (2 * d) := fun b hb => relab_in hb (by simp)
  have hother : ∀ b j, ω b = .ob j → j ≠ k → relab ω [k] (2 * d) b = .ob j := fun b j hb hj => relab_out hb (by simp [hj])
  have hrow : RowOk w t e (.slice ad q c) q (xs.take (q * e)) := by
    refine ⟨?_, ?_⟩
    · have := h1.1; simp; have := Nat.mul_le_mul_right e hqn; omega
    · rcases h1.2 with ⟨hn0, a', hv'⟩ | ⟨g, cap, cur, hv', hc, hg, hn, hm, hs, ht⟩
      · rw [hv] at hv'
        injection hv' with q1 q2 q3
        subst q3
        obtain rfl : q = 0 := by omega
        exact .inl ⟨rfl, ad, rfl⟩
      · rw [hv] at hv'
        injection hv' with q1 q2 q3
        subst q1; subst q3
        refine .inr ⟨g, c, cur, rfl, hc, hg, hqc, hm, hs, ?_⟩
        rw [← ht, List.take_take, Nat.min_eq_left (Nat.mul_le_mul_right e hqn)]
  have hrb : rowB (.slice ad q c) = rowB (κ k) := by rw [hv]; cases ad <;> cases c <;> rfl
  refine ⟨relab ω [k] (2 * d), setK κ (2 * d) (.slice ad q c), ?_, setK_eq _ _ _, fun b hb => relab_im hb, hother⟩
  refine h.change (2 * d) ⟨rfl, rfl, rfl, Nat.le_refl _, fun _ _ _ => rfl, fun b hb => relab_im hb, fun b _ hb => relab_no hb⟩ (fun b hb => h.rs.dom b (relab_no' hb)) (fun j hj => setK_ne _ _ hj) (fun j hj => ?_) (fun o ho => ?_) (.inr ⟨h.even d, hE, hS⟩) (noE_nn hE)
  · rw [get_cons, if_neg hj, get_del]
    by_cases hjk : j = k
    · exact .inl (by rw [if_pos hjk])
    · exact .inr ⟨by rw [if_neg hjk], fun b hb => ⟨hother b j hb hjk, rfl⟩⟩
  · rw [get_cons, if_pos rfl] at ho
    obtain rfl := Option.some.inj ho
    refine ⟨h0, xs.take (q * e), by rw [setK_eq]; exact hrow, fun b hb => ?_, ?_⟩
    · rw [setK_eq, hrb] at hb; exact hlab b (h2 b hb)
    · rw [setK_eq, hrb]
      unfold CellsOk at h3 ⊢
      cases own with
      | true =>
        simp only [if_true] at h3 ⊢
        obtain ⟨h4, Ss, h5, h6, h7⟩ := h3
        have hlt : ∀ j, j < (cs.take (q * e)).length → j < q * e ∧ j < cs.length := fun j hj => by simp at hj; omega
        refine ⟨by simp [h4], Ss, fun j x v hx hv' => ?_, fun i j b hi hj => h6 i j b (hlt i hi).2 (hlt j hj).2, fun j b hj hb => ⟨hlab b (h7 j b (hlt j hj).2 hb).1, (h7 j b (hlt j hj).2 hb).2⟩⟩
        have hj := hlt j (List.getElem?_eq_some_iff.1 hx).1
        rw [List.getElem?_take_of_lt hj.1] at hx hv'
        exact h5 j x v hx hv'
      | false =>
        simp only [Bool.false_eq_true, if_false] at h3 ⊢
        refine ⟨by simp [hcx], fun j x v hx hv' => ?_⟩
        have hj : j < q * e := by have := (List.getElem?_eq_some_iff.1 hx).1; simp at this; omega
        rw [List.getElem?_take_of_lt hj] at hx hv'
        exact (h3.2 j x v hx hv').kept fun b hb => ⟨relab_im hb, rfl⟩

theorem Src.over {ks : List Nat} {own : Bool} {ys : List IV} {vs : List Value} (h : Src w ω ks own ys vs) (him : ∀ b, ω b = .im → ω' b = .im) (hob : ∀ b j, ω b = .ob j → j ∈ ks → ω' b = .ob j) : Src w ω' ks own ys vs := by
  unfold Src at h ⊢
  split
  · rename_i ho; rw [if_pos ho] at h
    obtain ⟨h1, T, h2, h3, h4⟩ := h
    exact ⟨h1, T, h2, h3, fun j b hj hb => by obtain ⟨i, hi, hib⟩ := h4 j b hj hb; exact ⟨i, hi, hob b i hib hi⟩⟩
  · rename_i ho; rw [if_neg ho] at h
    exact h.imp fun x y _ hxy => hxy.kept fun b hb => ⟨him b hb, rfl⟩

/-- An append, whatever the flags. -/
theorem Rel.appendM (h : Rel β ω κ s a w) {d k n m : Nat} {t ty e : TypeId} {sz by_ : Nat} {zs : List Value} {cs ys : List IV} {o1 o2 o fl : Bool} {ks : List Nat} (hd : d < s.N) (ht : apOf P t = some (e, sz, by_, zs)) (hk : get s.σ k = some (.vec e sz n cs o1))
    {ad : Option Addr} {c : Nat} {vs : List Value} (hmix : mixO fl o1 o2 m = some o) (hy : ∀ own', (own' = o2 ∨ fl = true ∨ ys = []) → Src w ω ks own' ys vs) (hkk : k ∉ ks) (hks : o2 = false → ks = []) (hnil : ad = none → m = 0 ∧ c = 0) (hl : ys.length = m * sz)
    (hcell : ∀ b, ad = some b → ∀ j u, vs[j]? = some u → w.cell? (b.add j) = some u) (h63 : n + m ≤ maxLen) (hbytes : (n + m) * by_ ≤ 140737488355328) (hnn : nnE k s.E = true) :
    ∃ v' w', (Builtin.append_ #[t, t] ty #[κ k, .slice ad m c]).run P w = .ok v' w' ∧ RelE β ⟨s.N, (d, .c (.os k (n + m))) :: s.E, upd (delL s.σ ks) k (.vec e sz (n + m) (cs ++ ys) o)⟩ (a.put (some d) v') w' := by
  unfold mixO at hmix
  split at hmix
  · rename_i hc
    obtain rfl := Option.some.inj hmix
    have hs : Src w ω ks o1 ys vs := hy o1 (by
      simp only [Bool.or_eq_true, beq_iff_eq] at hc
      rcases hc with hc | hc
      · exact .inr (.inl hc)
      · exact .inl hc)
    exact h.appendE hd ht hk hs hkk hnil hl hcell h63 hbytes hnn
  · rename_i hc
    split at hmix
    · rename_i ho1
      obtain rfl := Option.some.inj hmix
      subst ho1
      have ho2 : o2 = false := by cases o2 <;> simp_all
      subst ho2
      obtain rfl := hks rfl
      obtain ⟨ω', h', him⟩ := h.shareK hk hnn
      have hs : Src w ω' [] false ys vs := (hy false (.inl rfl)).over him (by simp)
      have hsome : (get s.σ k).isSome = true := by rw [hk]; rfl
      have := h'.appendE (ty := ty) hd ht (k := k) (n := n) (cs := cs) (by rw [get_upd _ _ _ _ hsome, if_pos rfl]) hs hkk hnil hl hcell h63 hbytes hnn
      simp only [delL, upd_upd] at this ⊢
      exact this
    · cases hmix

theorem srcM_ks {fl : Bool} {x : TV} {m : Nat} {ys : List IV} {ks : List Nat} {own : Bool} (h : srcM fl σ x = some (m, ys, ks, own)) : (own = false → ks = []) ∧ ∀ k ∈ ks, (get σ k).isSome = true := by
  unfold srcM at h
  split at h
  · injection h with h; injection h with q1 h; injection h with q2 h; injection h with q3 q4
    subst q3; exact ⟨fun _ => rfl, by simp⟩
  · injection h with h; injection h with q1 h; injection h with q2 h; injection h with q3 q4
    subst q3; exact ⟨fun _ => rfl, by simp⟩
  · injection h with h; injection h with q1 h; injection h with q2 h; injection h with q3 q4
    subst q3; exact ⟨fun _ => rfl, by simp⟩
  · split at h
    · rename_i k m' o hk
      split at h
      · injection h with h; injection h with q1 h; injection h with q2 h; injection h with q3 q4
        subst q3; subst q4
        refine ⟨fun h => ?_, fun j hj => ?_⟩
        · simp only [Bool.or_eq_false_iff] at h
          simp [h.1, h.2]
        · split at hj
          · cases hj
          · split at hj
            · simp at hj; subst hj; rw [hk]; rfl
            · cases hj
      · cases h
    · cases h
  · split at h
    · split at h
      · injection h with h; injection h with q1 h; injection h with q2 h; injection h with q3 q4
        subst q3; exact ⟨fun _ => rfl, by simp⟩
      · cases h
    · cases h
  · cases h
end
end Go.VC
