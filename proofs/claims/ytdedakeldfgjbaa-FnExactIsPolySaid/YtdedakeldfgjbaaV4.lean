/- Operations that make or turn objects of the call's own. -/
import Derived.Test.YtdedakeldfgjbaaV3
set_option linter.unusedSimpArgs false
set_option linter.unusedVariables false
namespace Go.VC
open Go Go.RowKit
section
variable {w w' : World} {D D0 : Nat → Prop} {κ κ' : Nat → Value} {σ : Sto} {E : Env} {a : Act} {B : Nat} {w0 : World} {s : St}

theorem put_tmps (a : Act) (d : Nat) (v : Value) : (a.put (some d) v).tmps = a.tmps.setIfInBounds d v := rfl
theorem EnvOk.put (h : EnvOk w D κ σ E a.tmps) {d : Nat} (hd : d < a.tmps.size) {r : TV} {v : Value} (hr : RT w D κ σ r v) : EnvOk w D κ σ ((d, r) :: E) (a.put (some d) v).tmps := by
  intro t x hx
  rw [put_tmps]
  rw [get_cons] at hx
  by_cases ht : t = d
  · subst ht
    rw [if_pos rfl] at hx
    obtain rfl := Option.some.inj hx
    exact ⟨by simpa using hd, by simpa [Array.getD, hd] using hr⟩
  · rw [if_neg ht] at hx
    obtain ⟨h1, h2⟩ := h t x hx
    refine ⟨by simpa using h1, ?_⟩
    have : (a.tmps.setIfInBounds d v).getD t undef = a.tmps.getD t undef := by
      simp [Array.getD_eq_getD_getElem?, Array.getElem?_setIfInBounds, Ne.symm ht]
    rw [this]; exact h2
theorem EnvOk.step {tmps : Array Value} {σ' : Sto} (hD : ∀ b, D b → w'.heap[b]? = w.heap[b]?) (h : EnvOk w D κ σ E tmps) (hk : ∀ t x, get E t = some x → ∀ k, x.has k = true → KeyOk κ σ κ' σ' k) : EnvOk w' D κ' σ' E tmps :=
  fun t x hx => ⟨(h t x hx).1, (h t x hx).2.step (fun _ h => h) hD (hk t x hx)⟩

theorem Rel.put {d : Nat} {r : TV} {v : Value} (h : Rel B D0 w0 D κ s a w) (hd : d < s.N) (hr : RT w D κ s.σ r v) : Rel B D0 w0 D κ ⟨s.N, (d, r) :: s.E, s.σ⟩ (a.put (some d) v) w :=
  ⟨h.below, h.low, h.grow, h.new, h.defers, by rw [put_tmps]; simpa using h.size, h.env.put (by rw [h.size]; exact hd) hr, h.rs⟩

/-- Nothing names the key k. -/
def noE (k : Nat) : Env → Bool
  | [] => true
  | (_, x) :: r => !x.has k && noE k r
def noS (k : Nat) : Sto → Bool
  | [] => true
  | (_, .box _ cs) :: r => !hasL k cs && noS k r
  | (_, .vec _ _ _ _) :: r => noS k r
theorem noE_get {k : Nat} (h : noE k E = true) {t : Nat} {x : TV} (hx : get E t = some x) : x.has k = false := by
  induction E with
  | nil => cases hx
  | cons p r ih =>
    obtain ⟨u, y⟩ := p
    simp only [noE, Bool.and_eq_true, Bool.not_eq_true'] at h
    rw [get_cons] at hx
    split at hx
    · obtain rfl := Option.some.inj hx; exact h.1
    · exact ih h.2 hx
theorem noS_get {k : Nat} (h : noS k σ = true) {j : Nat} {t : TypeId} {cs : List Cell} (hx : get σ j = some (.box t cs)) : hasL k cs = false := by
  induction σ with
  | nil => cases hx
  | cons p r ih =>
    obtain ⟨u, y⟩ := p
    rw [get_cons] at hx
    cases y with
    | box t' cs' =>
      simp only [noS, Bool.and_eq_true, Bool.not_eq_true'] at h
      split at hx
      · injection hx with hx; injection hx with _ hx; subst hx; exact h.1
      · exact ih h.2 hx
    | vec t' e n cs' =>
      simp only [noS] at h
      split at hx
      · injection hx with hx; cases hx
      · exact ih h hx
theorem hasL_false {k : Nat} {l : List Cell} (h : hasL k l = false) {c : Cell} (hc : c ∈ l) : c.has k = false := by
  cases hh : c.has k with
  | false => rfl
  | true => rw [hasL_of_mem hc hh] at h; cases h

theorem keyOk_ne {k j : Nat} {o : Ob} {v : Value} (h : j ≠ k) : KeyOk κ σ (fun i => if i = k then v else κ i) ((k, o) :: σ) j := by
  refine ⟨fun _ _ => by simp [h], fun t e m cs hg => ?_⟩
  rw [get_cons, if_neg h] at hg
  exact ⟨m, cs, hg, Nat.le_refl _, fun _ => by simp [h]⟩
theorem has_ne {k i : Nat} {c : Cell} (h : c.has k = false) (hi : c.has i = true) : i ≠ k := fun e => by subst e; rw [h] at hi; cases hi

/-- A new object. -/
theorem Rel.newObj {d : Nat} {o : Ob} {v : Value} {c : Cell} (h : Rel B D0 w0 D κ s a w) (hd : d < s.N) (hno : noE d s.E = true ∧ noS d s.σ = true) (hg : w.grownBy w' none) (hbel : Below B w w')
    (hb : ∀ b, blk v = some b → w.heap.size ≤ b)
    (hbox : ∀ t cs, o = .box t cs → ∃ b vs, v = .pointer (some ⟨b, 0, none⟩) ∧ B ≤ b ∧ w'.heap[b]? = some (.cells vs t (0, 0)) ∧ hasL d cs = false ∧ All2 (RC w D κ s.σ) cs vs.toList ∧ ∀ u ∈ vs.toList, u.oneCell' = true)
    (hvec : ∀ t e n cs, o = .vec t e n cs → 0 < e ∧ ∃ xs, w'.ownsRow B t e v n xs ∧ All2 (RI w' D) cs xs)
    (hc : (∃ t cs, o = .box t cs ∧ c = .rf d 0) ∨ (∃ t e n cs ad cp, o = .vec t e n cs ∧ c = .os d n ∧ v = .slice ad n cp)) :
    Rel B D0 w0 D (fun i => if i = d then v else κ i) ⟨s.N, (d, .c c) :: s.E, (d, o) :: s.σ⟩ (a.put (some d) v) w' := by
  have hDw : ∀ b, D b → w'.heap[b]? = w.heap[b]? := fun b hb => hg.block b (h.rs.dom b hb) (by simp)
  have hstep : ∀ {x : Cell} {u : Value}, x.has d = false → RC w D κ s.σ x u → RC w' D (fun i => if i = d then v else κ i) ((d, o) :: s.σ) x u := fun hx hr =>
    hr.step (fun _ h => h) hDw fun k hk => keyOk_ne (has_ne hx hk)
  have hbx : ∀ t cs, get ((d, o) :: s.σ) d = some (.box t cs) → ∃ b vs, (if d = d then v else κ d) = .pointer (some ⟨b, 0, none⟩) ∧ B ≤ b ∧ w'.heap[b]? = some (.cells vs t (0, 0)) ∧
      All2 (RC w' D (fun i => if i = d then v else κ i) ((d, o) :: s.σ)) cs vs.toList ∧ ∀ u ∈ vs.toList, u.oneCell' = true := by
    intro t cs hgt
    rw [get_cons, if_pos rfl] at hgt
    obtain ⟨b, vs, h1, h2, h3, h4, h5, h6⟩ := hbox t cs (Option.some.inj hgt)
    exact ⟨b, vs, by simpa using h1, h2, h3, h5.imp fun x y hx hxy => hstep (hasL_false h4 hx) hxy, h6⟩
  have hvc : ∀ t e n cs, get ((d, o) :: s.σ) d = some (.vec t e n cs) → 0 < e ∧ ∃ xs, w'.ownsRow B t e (if d = d then v else κ d) n xs ∧ All2 (RI w' D) cs xs := by
    intro t e n cs hgt
    rw [get_cons, if_pos rfl] at hgt
    simpa using hvec t e n cs (Option.some.inj hgt)
  have hrs : RS w' B D (fun i => if i = d then v else κ i) ((d, o) :: s.σ) :=
    RS.turn d h.rs hg (by simp) (fun j hj => by simp [hj]) (fun j hj => by rw [get_cons, if_neg hj])
      (fun j t cs hj hgj c hcc i hi => keyOk_ne (has_ne (hasL_false (noS_get hno.2 hgj) hcc) hi))
      (fun b _ hb' => .inl (hb b (by simpa using hb'))) hbx hvc
  refine ⟨h.below.trans hbel, h.low, h.grow, h.new, h.defers, by rw [put_tmps]; simpa using h.size, ?_, hrs⟩
  refine EnvOk.put (EnvOk.step hDw h.env fun t x hx k hk => keyOk_ne fun e => ?_) (by rw [h.size]; exact hd) ?_
  · subst e; rw [noE_get hno.1 hx] at hk; cases hk
  · rcases hc with ⟨t, cs, rfl, rfl⟩ | ⟨t, e, n, cs, ad, cp, rfl, rfl, rfl⟩
    · obtain ⟨b, vs, h1, _⟩ := hbox t cs rfl
      subst h1
      exact .rf _ _ b (by simp)
    · exact .os _ _ _ _ fun t' e' m cs' hgt => by
        rw [get_cons, if_pos rfl] at hgt
        injection hgt with hgt
        injection hgt with _ _ q _
        exact ⟨by omega, fun _ => by simp⟩

theorem setL_eq {α : Type} (news : List α) : ∀ (cs : List α) (off : Nat), off + news.length ≤ cs.length → setL cs off news = cs.take off ++ news ++ cs.drop (off + news.length) := by
  induction news with
  | nil => intro cs off _; simp [setL]
  | cons x r ih =>
    intro cs off h
    simp only [List.length_cons] at h
    rw [setL, ih _ _ (by simp; omega)]
    apply List.ext_getElem?
    intro j
    by_cases h1 : j < off
    · simp [List.getElem?_append, List.getElem?_take, h1, show j < off + 1 by omega, show j < cs.length by omega, List.getElem?_set, show off ≠ j by omega, show j < off + 1 + r.length by omega, Nat.min_eq_left (show off ≤ cs.length by omega), Nat.min_eq_left (show off + 1 ≤ cs.length by omega), show j < off + (r.length + 1) by omega]
    · by_cases h2 : j = off
      · subst h2
        simp [List.getElem?_append, List.getElem?_take, List.getElem?_set, show j < cs.length by omega, Nat.min_eq_left (show j ≤ cs.length by omega), Nat.min_eq_left (show j + 1 ≤ cs.length by omega), show j < j + 1 + r.length by omega]
      · by_cases h3 : j < off + 1 + r.length
        · obtain ⟨d, rfl⟩ : ∃ d, j = off + 1 + d := ⟨j - (off + 1), by omega⟩
          have e : off + 1 + d - off = d + 1 := by omega
          simp [List.getElem?_append, Nat.min_eq_left (show off ≤ cs.length by omega), Nat.min_eq_left (show off + 1 ≤ cs.length by omega), show ¬ off + 1 + d < off by omega, e, show d < r.length by omega]
        · obtain ⟨d, rfl⟩ : ∃ d, j = off + 1 + r.length + d := ⟨j - (off + 1 + r.length), by omega⟩
          have e1 : ¬ off + 1 + r.length + d < off := by omega
          have e2 : off + 1 + r.length + d - off = (r.length + 1) + d := by omega
          have e3 : off + 1 + r.length + d - (off + 1) = r.length + d := by omega
          simp [List.getElem?_append, Nat.min_eq_left (show off ≤ cs.length by omega), Nat.min_eq_left (show off + 1 ≤ cs.length by omega), e1, e2, e3, List.getElem?_drop, List.getElem?_set, show ¬ off = off + 1 + r.length + d by omega]
          rw [if_neg (by omega), if_neg (by omega), show r.length + 1 + d = (r.length + d) + 1 by omega, List.getElem?_cons_succ, List.getElem?_append_right (by omega), List.getElem?_drop]
          congr 1
          omega

theorem setRow_grown (w : World) (g : Nat) (cs : Array Value) : w.grownBy (w.setRow g cs) (some g) :=
  ⟨rfl, rfl, rfl, by simp [World.setRow], fun k hk hne => by
    simp only [World.setRow, Array.getElem?_modify]
    rw [if_neg (fun e => hne (by rw [e]))]⟩

theorem keyOk_upd_box {k j : Nat} {t : TypeId} {cs : List Cell} (h : (get σ k).isSome = true) : KeyOk κ σ κ (upd σ k (.box t cs)) j := by
  refine ⟨fun _ _ => rfl, fun t' e m cs' hg => ?_⟩
  rw [get_upd _ _ _ _ h] at hg
  split at hg
  · injection hg with hg; cases hg
  · exact ⟨m, cs', hg, Nat.le_refl _, fun _ => rfl⟩

/-- A store into a box. -/
theorem Rel.stBox {k off : Nat} {t : TypeId} {cs news : List Cell} {vs : List Value} (h : Rel B D0 w0 D κ s a w) (hk : get s.σ k = some (.box t cs)) (hn : All2 (RC w D κ s.σ) news vs) (h1 : ∀ u ∈ vs, u.oneCell' = true)
    (hl : off + news.length ≤ cs.length) (P : Program) : ∃ b w', κ k = .pointer (some ⟨b, 0, none⟩) ∧ (storeCells ⟨b, off, none⟩ vs).run P w = .ok () w' ∧
      Rel B D0 w0 D κ ⟨s.N, s.E, upd s.σ k (.box t (setL cs off news))⟩ a w' := by
  obtain ⟨b, us, e1, e2, e3, e4, e5⟩ := h.rs.box k t cs hk
  have hlen : cs.length = us.size := by simpa using e4.1
  have hnl : news.length = vs.length := hn.1
  have hrun := run_storeCells_at P b off t vs 0 us w e3 (by omega) h1
  simp only [Nat.add_zero] at hrun
  have hlist : us.toList.take off ++ vs ++ us.toList.drop (off + vs.length) = setL us.toList off vs := (setL_eq vs us.toList off (by simp; omega)).symm
  rw [hlist] at hrun
  refine ⟨b, _, e1, hrun, ?_⟩
  have hg := setRow_grown w b (setL us.toList off vs).toArray
  have hsome : (get s.σ k).isSome = true := by rw [hk]; rfl
  have hDw : ∀ c, D c → (w.setRow b (setL us.toList off vs).toArray).heap[c]? = w.heap[c]? := fun c hc => hg.block c (h.rs.dom c hc) fun e => by
    obtain rfl := Option.some.inj e
    exact h.rs.apart k c hsome (by rw [e1]; rfl) hc
  have hrs : RS (w.setRow b (setL us.toList off vs).toArray) B D κ (upd s.σ k (.box t (setL cs off news))) := by
    refine RS.turn k h.rs hg (fun c hc => ⟨hsome, by rw [e1]; exact hc⟩) (fun _ _ => rfl) (fun j hj => by rw [get_upd _ _ _ _ hsome, if_neg hj]) (fun j t' cs' hj hgj c hc i hi => keyOk_upd_box hsome)
      (fun c _ hc => .inr ⟨hsome, hc⟩) (fun t' cs' hgt => ?_) (fun t' e n cs' hgt => ?_)
    · rw [get_upd _ _ _ _ hsome, if_pos rfl] at hgt
      injection hgt with hgt
      injection hgt with q1 q2
      subst q1; subst q2
      refine ⟨b, (setL us.toList off vs).toArray, e1, e2, setRow_heap w b us _ t (0, 0) e3, ?_, fun u hu => ?_⟩
      · exact (All2.setL (hn.imp fun x y _ hxy => hxy.step (fun _ h => h) hDw fun k _ => keyOk_upd_box hsome) off (e4.imp fun x y _ hxy => hxy.step (fun _ h => h) hDw fun k _ => keyOk_upd_box hsome))
      · rcases setL_mem (by simpa using hu) with hu | hu
        · exact e5 u (by simpa using hu)
        · exact h1 u hu
    · rw [get_upd _ _ _ _ hsome, if_pos rfl] at hgt
      injection hgt with hgt; cases hgt
  exact ⟨h.below.grown hg (by rw [h.low]; exact h.below.size) (fun c hc => by obtain rfl := Option.some.inj hc; exact e2), h.low, h.grow, h.new, h.defers, h.size,
    h.env.step hDw fun _ _ _ k _ => keyOk_upd_box hsome, hrs⟩
end
end Go.VC
