/- Rules in the form in which they are used. -/
import Derived.Test.YtdedakeldfgjbaaV11
set_option linter.unusedSimpArgs false
set_option linter.unusedVariables false
namespace Go.VC
open Go Go.RowKit
section
variable {s : St} {P : Program}

/-- A test. -/
def condK (P : Program) (x : Operand) (c d : Code) (s : St) (K : Exit → St → Prop) : Prop :=
  match opd s.E x with
  | some (.c (.im (.sc (.bool b)))) => (b = true → Sm P c s K) ∧ (b = false → Sm P d s K)
  | _ => False
theorem Sm.test {x : Operand} {c d : Code} {K : Exit → St → Prop} (h : condK P x c d s K) : Sm P (.cond x c d) s K := by
  unfold condK at h
  split at h
  · rename_i b hx; exact Sm.cond hx h.1 h.2
  · exact h.elim

/-- The entries of a frame that are still wanted. -/
def subE (E : Env) : Env → Prop
  | [] => True
  | (t, x) :: r => get E t = some x ∧ subE E r
def subS (σ : Sto) : Sto → Prop
  | [] => True
  | (k, o) :: r => get σ k = some o ∧ subS σ r
theorem subE_ok {E E' : Env} (h : subE E E') : ∀ t x, get E' t = some x → get E t = some x := by
  induction E' with
  | nil => intro t x hx; cases hx
  | cons p r ih =>
    obtain ⟨u, y⟩ := p
    intro t x hx
    rw [get_cons] at hx
    split at hx
    · rename_i ht; subst ht; obtain rfl := Option.some.inj hx; exact h.1
    · exact ih h.2 t x hx
theorem subS_ok {σ σ' : Sto} (h : subS σ σ') : ∀ t x, get σ' t = some x → get σ t = some x := by
  induction σ' with
  | nil => intro t x hx; cases hx
  | cons p r ih =>
    obtain ⟨u, y⟩ := p
    intro t x hx
    rw [get_cons] at hx
    split at hx
    · rename_i ht; subst ht; obtain rfl := Option.some.inj hx; exact h.1
    · exact ih h.2 t x hx
theorem Weak.of {s s' : St} (h1 : s'.N = s.N) (h2 : subE s.E s'.E) (h3 : subS s.σ s'.σ) : Weak s s' := ⟨h1, subE_ok h2, subS_ok h3⟩

/-- The next round: a frame that fits, at a lower number. -/
def RoundC {α : Type} (inv : α → St) (ok : α → Prop) (μ : α → Nat) (x : α) (s' : St) : Prop := ∃ y, ok y ∧ μ y < μ x ∧ Weak s' (inv y)
/-- A loop: 'inv x' is the frame at a round's head, for an x that is 'ok'; 'μ' goes down. -/
theorem Sm.rounds {α : Type} {c : Code} {K : Exit → St → Prop} (inv : α → St) (ok : α → Prop) (μ : α → Nat) (x0 : α) (h0 : ok x0) (hw : Weak s (inv x0))
    (hround : ∀ x, ok x → Sm P c (inv x) (Kn (RoundC inv ok μ x) K)) : Sm P (.loop c) s K := by
  refine Sm.weak hw (Sm.loop (fun n s => ∃ x, ok x ∧ μ x = n ∧ Weak s (inv x)) ⟨μ x0, x0, h0, rfl, rfl, fun _ _ h => h, fun _ _ h => h⟩ fun n s' ⟨x, h1, h2, h3⟩ => ?_)
  refine Sm.weak h3 ((hround x h1).mono fun e s'' h => ?_)
  cases e with
  | normal => obtain ⟨y, g1, g2, g3⟩ := h; exact ⟨μ y, by omega, y, g1, rfl, g3⟩
  | _ => exact h
theorem RoundC.mk {α : Type} {inv : α → St} {ok : α → Prop} {μ : α → Nat} {x : α} {s' : St} (y : α) (h1 : ok y) (h2 : μ y < μ x) (h3 : s'.N = (inv y).N) (h4 : subE s'.E (inv y).E) (h5 : subS s'.σ (inv y).σ) : RoundC inv ok μ x s' :=
  ⟨y, h1, h2, Weak.of h3.symm h4 h5⟩
theorem Cont.go {d : Code} {K : Exit → St → Prop} (h : Sm P d s K) : Cont P d K s := h
theorem RetK.mk {l : List ResultVar} {r : TV} (h : retOf P s l = some r) : RetK P l r .ret s := ⟨.inr rfl, h⟩
theorem RetK.mkn {l : List ResultVar} {r : TV} (h : retOf P s l = some r) : RetK P l r .normal s := ⟨.inl rfl, h⟩

/-! What 'simp' may look into: the frame, not what is left to do. -/
theorem Cont_congr {d : Code} {K : Exit → St → Prop} {s s' : St} (h : s = s') : Cont P d K s = Cont P d K s' := by rw [h]
theorem Sm_congr {d : Code} {K : Exit → St → Prop} {s s' : St} (h : s = s') : Sm P d s K = Sm P d s' K := by rw [h]
theorem Kn_congr {R : St → Prop} {K : Exit → St → Prop} {e : Exit} {s s' : St} (h : s = s') : Kn R K e s = Kn R K e s' := by rw [h]
theorem Kb_congr {n : Nat} {K : Exit → St → Prop} {e : Exit} {s s' : St} (h : s = s') : Kb n K e s = Kb n K e s' := by rw [h]
theorem wpO_congr {o : Oper} {K : St → Prop} {s s' : St} (h : s = s') : wpO P o s K = wpO P o s' K := by rw [h]
theorem opsW_congr {ops : Array Oper} {l : List Oper} {K : St → Prop} {s s' : St} (h : s = s') : opsW P ops l s K = opsW P ops l s' K := by rw [h]
theorem qW_congr {ops : Array Oper} {l : List Oper} {K : St → Prop} {s s' : St} (h : s = s') : qW P ops l s K = qW P ops l s' K := by rw [h]
theorem RoundC_congr {α : Type} {inv : α → St} {ok : α → Prop} {μ : α → Nat} {x : α} {s s' : St} (h : s = s') : RoundC inv ok μ x s = RoundC inv ok μ x s' := by rw [h]
theorem RetK_congr {l : List ResultVar} {r : TV} {e : Exit} {s s' : St} (h : s = s') : RetK P l r e s = RetK P l r e s' := by rw [h]
theorem condK_congr {x : Operand} {c d : Code} {K : Exit → St → Prop} {s s' : St} (h : s = s') : condK P x c d s K = condK P x c d s' K := by rw [h]
theorem opsW_nil {ops : Array Oper} {s : St} {K : St → Prop} : opsW P ops [] s K = K s := rfl
theorem opsW_cons {ops : Array Oper} {o : Oper} {r : List Oper} {s : St} {K : St → Prop} : opsW P ops (o :: r) s K = gdP (gdOf ops s.E o) (wpO P o s fun s' => opsW P ops r s' K)
    (match o.dst with
      | some d => d < s.N ∧ opsW P ops r (s.put d (.tp [])) K
      | none => opsW P ops r s K) .mk .mk := rfl
theorem qW_nil {ops : Array Oper} {s : St} {K : St → Prop} : qW P ops [] s K = K s := rfl
theorem qW_cons {ops : Array Oper} {o : Oper} {r : List Oper} {s : St} {K : St → Prop} : qW P ops (o :: r) s K = match o.dst with
    | some d => d < s.N ∧ gdP (gdOf ops s.E o) (match o.op with
        | .call c => match c.callee with
          | .value f => match (opd s.E f).bind calleeOf, opsT s.E c.args.toList with
            | some (g, caps), some xs => fnOk P g = true ∧ ∃ ys v, FnP P g ys v ∧ imT v = true ∧ ((argTs s.σ (xs ++ caps) = some ys ∧ scT v = true) ∨ argTs [] (xs ++ caps) = some ys) ∧ Hold (qW P ops r (s.put d v) K) .mk
            | _, _ => False
          | _ => onS (ev1 P s.E s.σ o.op) (fun v => qW P ops r (s.put d v) K) .mk
        | .buildSlice t n ps => onS (bsV P s.E t n ps) (fun ys => qW P ops r (s.put d (.c (.ik n n ys))) K) .mk
        | op => onS (ev1 P s.E s.σ op) (fun v => qW P ops r (s.put d v) K) .mk)
      (qW P ops r (s.put d (.tp [])) K) .mk .mk
    | none => False := by
  rw [qW]
  rfl
attribute [congr] Cont_congr Sm_congr Kn_congr Kb_congr wpO_congr opsW_congr qW_congr RoundC_congr RetK_congr condK_congr

theorem wrap_i64 {x : Int} (h1 : -9223372036854775808 ≤ x) (h2 : x ≤ 9223372036854775807) : IntKind.i64.wrap x = x := IntWalk.i64_in _ ⟨h1, h2⟩

theorem get_nil {α : Type} (i : Nat) : get ([] : List (Nat × α)) i = none := rfl
/-- Does it turn nothing? -/
def quietB : Op → Bool
  | .store .. | .box .. | .alloc _ | .makeSlice .. => false
  | .buildSlice _ n _ => n != 0
  | .call c => match c.callee with | .builtin .append => false | _ => true
  | _ => true
def headN (ops : Array Oper) : Nat := (ops.toList.takeWhile fun o => quietB o.op).length
/-- The operations in the text's order, up to the first one that turns something; then the others. -/
def dW (P : Program) (ops : Array Oper) : List Oper → St → (St → Prop) → Prop
  | [], s, K => K s
  | o :: r, s, K => if quietB o.op = true then qW P ops [o] s (fun s' => dW P ops r s' K) else opsW P ops (o :: r) s K
theorem dW_nil {ops : Array Oper} {s : St} {K : St → Prop} : dW P ops [] s K = K s := rfl
theorem dW_cons {ops : Array Oper} {o : Oper} {r : List Oper} {s : St} {K : St → Prop} : dW P ops (o :: r) s K = if quietB o.op = true then qW P ops [o] s (fun s' => dW P ops r s' K) else opsW P ops (o :: r) s K := rfl
theorem qW_two {ops : Array Oper} {o : Oper} {r : List Oper} {s : St} {K : St → Prop} : qW P ops (o :: r) s K = qW P ops [o] s (fun s' => qW P ops r s' K) := rfl
theorem qW1_mono {ops : Array Oper} {o : Oper} {s : St} {K K' : St → Prop} (hK : ∀ s, K s → K' s) (h : qW P ops [o] s K) : qW P ops [o] s K' := by
  unfold qW gdP onS Hold at h ⊢
  simp only [qW] at h ⊢
  split at h
  · refine ⟨h.1, ?_⟩
    have h := h.2
    split at h
    · split at h
      · split at h
        · split at h
          · obtain ⟨h1, ys, v, h2, h3, h4, h5⟩ := h
            exact ⟨h1, ys, v, h2, h3, h4, hK _ h5⟩
          · exact h.elim
        · split at h
          · exact hK _ h
          · exact h.elim
      · split at h
        · exact hK _ h
        · exact h.elim
      · split at h
        · exact hK _ h
        · exact h.elim
    · exact hK _ h
    · exact h.elim
  · exact h.elim
theorem dW_qW {ops : Array Oper} : ∀ {l : List Oper} {s : St} {K : St → Prop}, dW P ops l s K → qW P ops (l.take (l.takeWhile fun o => quietB o.op).length) s fun s' => opsW P ops (l.drop (l.takeWhile fun o => quietB o.op).length) s' K
  | [], s, K, h => h
  | o :: r, s, K, h => by
    rw [dW_cons] at h
    by_cases hq : quietB o.op = true
    · rw [if_pos hq] at h
      simp only [List.takeWhile_cons, hq, if_true, List.length_cons, List.take_succ_cons, List.drop_succ_cons]
      rw [qW_two]
      exact qW1_mono (fun s' h' => dW_qW h') h
    · rw [if_neg hq] at h
      simp only [List.takeWhile_cons, hq, if_false, List.length_nil, List.take_zero, List.drop_zero]
      exact h
theorem dW_step {ops : Array Oper} {o : Oper} {r : List Oper} {s : St} {K : St → Prop} : dW P ops (o :: r) s K = if quietB o.op = true then (match o.dst with
    | some d => d < s.N ∧ gdP (gdOf ops s.E o) (match o.op with
        | .call c => match c.callee with
          | .value f => match (opd s.E f).bind calleeOf, opsT s.E c.args.toList with
            | some (g, caps), some xs => fnOk P g = true ∧ ∃ ys v, FnP P g ys v ∧ imT v = true ∧ ((argTs s.σ (xs ++ caps) = some ys ∧ scT v = true) ∨ argTs [] (xs ++ caps) = some ys) ∧ Hold (dW P ops r (s.put d v) K) .mk
            | _, _ => False
          | _ => onS (ev1 P s.E s.σ o.op) (fun v => dW P ops r (s.put d v) K) .mk
        | .buildSlice t n ps => onS (bsV P s.E t n ps) (fun ys => dW P ops r (s.put d (.c (.ik n n ys))) K) .mk
        | op => onS (ev1 P s.E s.σ op) (fun v => dW P ops r (s.put d v) K) .mk)
      (dW P ops r (s.put d (.tp [])) K) .mk .mk
    | none => False) else opsW P ops (o :: r) s K := by
  rw [dW_cons, qW]
  rfl
theorem dW_congr {ops : Array Oper} {l : List Oper} {K : St → Prop} {s s' : St} (h : s = s') : dW P ops l s K = dW P ops l s' K := by rw [h]
attribute [congr] dW_congr
/-- A region whose order is open: what turns something comes last. -/
theorem Sm.drawT {id : Nat} {ops : Array Oper} {K : Exit → St → Prop} (hm : P.follows .mixedOrders = true) (hb : drawB ops (headN ops) = true)
    (h : dW P ops ops.toList s (K .normal)) : Sm P (.region id ops true) s K := Sm.draw hm hb (dW_qW h)
end
end Go.VC
