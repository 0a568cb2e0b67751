/- Each operation does in the machine what it comes to in a frame. -/
import Derived.Test.YtiohpbhdonlonaaW11
set_option linter.unusedSimpArgs false
set_option linter.unusedVariables false
namespace Go.VC
open Go Go.RowKit
section
variable {β : Base} {w w' : World} {ω ω' : Lab} {κ κ' : Nat → Value} {σ σ' : Sto} {E : Env} {a : Act} {s : St} {P : Program}

theorem ofV_has (d : Nat) (v : Value) : (ofC v).has d = false ∧ (ofC v).anyN = false := by
  unfold ofC
  split
  · rename_i x h
    unfold ofV at h
    split at h
    · injection h with h; injection h with h; subst h; exact ⟨rfl, rfl⟩
    · split at h
      · injection h with h; injection h with h; subst h; exact ⟨rfl, rfl⟩
      · cases h
  · exact ⟨rfl, rfl⟩
theorem hasL_ofC (d : Nat) (l : List Value) : hasL d (l.map ofC) = false := by
  induction l with
  | nil => rfl
  | cons v r ih => simp [hasL, (ofV_has d v).1, ih]
theorem anyNL_ofC (l : List Value) : anyNL (l.map ofC) = false := by
  induction l with
  | nil => rfl
  | cons v r ih => simp [anyNL, (ofV_has 0 v).2, ih]
theorem All2_ofC (l : List Value) : All2 (RC w ω κ σ) (l.map ofC) l := ⟨by simp, fun j x y hx hy => by
  rw [List.getElem?_map, hy] at hx
  obtain rfl := Option.some.inj hx
  exact ofC_ok y⟩
theorem reps_get {α : Type} (l : List α) : ∀ (n j : Nat), j < n * l.length → (reps n l)[j]? = l[j % l.length]?
  | 0, j, h => by simp at h
  | n + 1, j, h => by
    rw [reps]
    by_cases hj : j < l.length
    · rw [List.getElem?_append_left hj, Nat.mod_eq_of_lt hj]
    · rw [List.getElem?_append_right (by omega), reps_get l n (j - l.length) (by rw [Nat.add_mul] at h; omega), ← Nat.mod_eq_sub_mod (by omega)]
theorem reps_len {α : Type} (l : List α) : ∀ n, (reps n l).length = n * l.length
  | 0 => by simp [reps]
  | n + 1 => by rw [reps, List.length_append, reps_len l n, Nat.add_mul]; omega
theorem made_ok {z : Value} {sz n : Nat} {ys : List IV} {ks : List Nat} (hsz : z.cells.size = sz) (hys : ownC [] (z.cells.toList.map ofC) = some (ys, ks)) : Src w ω [] true (reps n ys) (madeCells z.cells (n * sz)).toList := by
  have hnil : RS w (fun _ => Lb.no) (fun _ => undef) [] := ⟨fun k o h => (by rw [get_nil] at h; cases h), fun b h => absurd rfl h⟩
  obtain ⟨h1, T, h2, h3, h4⟩ := (show Src w (fun _ => Lb.no) ks true ys z.cells.toList from ownC_ok hnil hys (All2_ofC _))
  have hks : ∀ k ∈ ks, False := fun k hk => by have := ownC_keys hys k hk; cases this
  have hT : ∀ j b, j < ys.length → ¬ T j b := fun j b hj hb => by obtain ⟨i, hi, _⟩ := h4 j b hj hb; exact hks i hi
  have hl : ys.length = sz := by rw [h1]; simpa using hsz
  refine ⟨by rw [reps_len]; simp [size_madeCells, hl], fun _ _ => False, fun j x y hx hy => ?_, fun _ _ _ _ _ _ h => h.elim, fun _ _ _ h => h.elim⟩
  have hj : j < n * ys.length := by rw [← reps_len]; exact (List.getElem?_eq_some_iff.1 hx).1
  rw [reps_get ys n j hj, hl] at hx
  have hj' : j < n * sz := by rw [← hl]; exact hj
  have hm : j % sz < sz := Nat.mod_lt _ (by rcases Nat.eq_zero_or_pos sz with h | h; (· rw [h] at hj'; omega); exact h)
  have : y = z.cells[j % sz]'(by rw [hsz]; exact hm) := by
    simp [madeCells, hj', hsz] at hy
    rw [← hy]
    simp [hsz, hm]
  exact (h2 _ x y hx (by rw [this]; simp [hsz, hm])).congr fun b => ⟨fun hb => hT _ b (by omega) hb, fun h => h.elim⟩

theorem wp_value {o : Oper} {next : Act → World → Prop} {Q : Exit → Act → World → Prop} {v : Value} (h : (execOp a.eval o).run P w = .ok (.value v) w') (hn : next (a.put o.dst v) w') : o.wp P a w next Q := by
  unfold Oper.wp; rw [h]; exact hn
theorem wp_skip1 {o : Oper} {next : Act → World → Prop} {Q : Exit → Act → World → Prop} (h : (execOp a.eval o).run P w = .ok .skip w') (hn : next (a.put o.dst undef) w') : o.wp P a w next Q := by
  unfold Oper.wp; rw [h]; exact hn
theorem wp_enter {o : Oper} {next : Act → World → Prop} {Q : Exit → Act → World → Prop} {g : FuncId} {args : Array Value} (h : (execOp a.eval o).run P w = .ok (.enter g args) w)
    (hc : Calls P g args w fun e w' => ∃ v, e = .returned v ∧ next (a.put o.dst v) w') : o.wp P a w next Q := by
  unfold Oper.wp; rw [h]
  exact hc.mono fun e w' ⟨v, he, hn⟩ => by subst he; exact hn
theorem fillC_len {pl : List (Nat × Nat)} : ∀ {q : List (Nat × TV)} {c c' : List Cell}, fillC pl c q = some c' → c'.length = c.length := by
  intro q
  induction q with
  | nil => intro c c' hh; obtain rfl := Option.some.inj hh; rfl
  | cons p r ih =>
    intro c c' hh
    obtain ⟨pi, px⟩ := p
    simp only [fillC] at hh
    split at hh
    · split at hh
      · rw [ih hh, setL_len]
      · cases hh
    · cases hh
theorem nilK_ok {x : Cell} {eq : Bool} {K : Bool → Prop} (h : nilK x eq K) {v : Value} (hx : RC w ω κ σ x v) : ∃ a n c, v = .slice a n c ∧ K (a.isNone == eq) := by
  unfold nilK at h
  split at h
  · cases hx; exact ⟨none, 0, 0, rfl, by simpa using h⟩
  · split at h
    · rename_i n hn
      have hnone : ∀ (m c : Nat), m = n → m ≤ c → (Option.isNone (none : Option Addr) = true → c = 0) → True := fun _ _ _ _ _ => trivial
      have him : ∀ cs v, RI w ω (.sl n cs) v → ∃ a n c, v = .slice a n c ∧ K (a.isNone == eq) := fun cs v hr => by
        cases hr with
        | slnil => exact ⟨none, 0, 0, rfl, h true fun _ => rfl⟩
        | sl _ c _ a => exact ⟨some a, n, c, rfl, h false fun e => by cases e⟩
      cases x with
      | im y =>
        cases y with
        | sl m cs => obtain rfl := Option.some.inj hn; cases hx with | im _ _ hx => exact him cs v hx
        | _ => cases hn
      | ik c m cs => obtain rfl := Option.some.inj hn; cases hx with | ik _ _ _ _ hx => exact him cs _ hx
      | os k m =>
        obtain rfl := Option.some.inj hn
        cases hx with
        | os _ _ a c hmc hz hh =>
          cases a with
          | some a => exact ⟨some a, _, c, rfl, h false fun e => by cases e⟩
          | none => exact ⟨none, _, c, rfl, h true fun _ => by have := hz rfl; omega⟩
      | ov k m off q =>
        obtain rfl := Option.some.inj hn
        cases hx with
        | ov _ _ _ _ a c hmc hz hh =>
          cases a with
          | some a => exact ⟨some a, _, c, rfl, h false fun e => by cases e⟩
          | none => exact ⟨none, _, c, rfl, h true fun _ => by have := hz rfl; omega⟩
      | _ => cases hn
    · exact h.elim
end
end Go.VC
