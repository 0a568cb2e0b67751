/- Rules in the form in which they are used. -/
import Derived.Test.YtiohpbhdonlonaaW16
set_option linter.unusedSimpArgs false
set_option linter.unusedVariables false
namespace Go.VC
open Go Go.RowKit
section
variable {s : St} {P : Program}

/-- A test. -/
def condK (P : Program) (x : Operand) (c d : Code) (s : St) (K : Exit → St → Prop) : Prop :=
  match opd s.E x with
  | some (.c (.im (.sc (.bool b)))) => (b = true → Sm P c s K) ∧ (b = false → Sm P d s K)
  | _ => False
theorem Sm.test {x : Operand} {c d : Code} {K : Exit → St → Prop} (h : condK P x c d s K) : Sm P (.cond x c d) s K := by
  unfold condK at h
  split at h
  · rename_i b hx; exact Sm.cond hx h.1 h.2
  · exact h.elim

/-- The entries of a frame that are still wanted. -/
def subE (E : Env) : Env → Prop
  | [] => True
  | (t, x) :: r => get E t = some x ∧ subE E r
def subS (σ : Sto) : Sto → Prop
  | [] => True
  | (k, o) :: r => get σ k = some o ∧ subS σ r
theorem subE_ok {E E' : Env} (h : subE E E') : ∀ t x, get E' t = some x → get E t = some x := by
  induction E' with
  | nil => intro t x hx; cases hx
  | cons p r ih =>
    obtain ⟨u, y⟩ := p
    intro t x hx
    rw [get_cons] at hx
    split at hx
    · rename_i ht; subst ht; obtain rfl := Option.some.inj hx; exact h.1
    · exact ih h.2 t x hx
theorem subS_ok {σ σ' : Sto} (h : subS σ σ') : ∀ t x, get σ' t = some x → get σ t = some x := by
  induction σ' with
  | nil => intro t x hx; cases hx
  | cons p r ih =>
    obtain ⟨u, y⟩ := p
    intro t x hx
    rw [get_cons] at hx
    split at hx
    · rename_i ht; subst ht; obtain rfl := Option.some.inj hx; exact h.1
    · exact ih h.2 t x hx
theorem Weak.of {s s' : St} (h1 : s'.N = s.N) (h2 : subE s.E s'.E) (h3 : subS s.σ s'.σ) : Weak s s' := ⟨h1, subE_ok h2, subS_ok h3⟩

def memN (t : Nat) : List Nat → Bool
  | [] => false
  | m :: r => if t = m then true else memN t r
def dropE (M : List Nat) : Env → Env
  | [] => []
  | (t, x) :: r => if memN t M then dropE M r else (t, x) :: dropE M r
theorem dropE_get {M : List Nat} : ∀ {E : Env} {t : Nat} {x : TV}, get (dropE M E) t = some x → get E t = some x
  | [], t, x, h => by cases h
  | (u, y) :: r, t, x, h => by
    have hno : ∀ {E : Env} {t : Nat}, memN t M = true → get (dropE M E) t = none := fun {E} => by
      induction E with
      | nil => intro t _; rfl
      | cons p q ih =>
        intro t ht
        obtain ⟨v, z⟩ := p
        rw [dropE]
        split
        · exact ih ht
        · rename_i hv
          rw [get_cons, if_neg fun e => hv (by rw [← e]; exact ht)]
          exact ih ht
    rw [dropE] at h
    rw [get_cons]
    split at h
    · rename_i hu
      split
      · rename_i e
        rw [← e] at hu
        rw [hno hu] at h; cases h
      · exact dropE_get h
    · rw [get_cons] at h
      split at h
      · rename_i e; rw [if_pos e]; exact h
      · rename_i e; rw [if_neg e]; exact dropE_get h
/-- The next round: a frame that fits, at a lower number. -/
def RoundC {α : Type} (inv : α → St) (ok : α → Prop) (μ : α → Nat) (x : α) (s' : St) : Prop := ∃ y, ok y ∧ μ y < μ x ∧ Weak s' (inv y)
/-- A loop: 'inv x' is the frame at a round's head, for an x that is 'ok'; 'μ' goes down. -/
theorem Sm.rounds {α : Type} {c : Code} {K : Exit → St → Prop} (inv : α → St) (ok : α → Prop) (μ : α → Nat) (x0 : α) (h0 : ok x0) (hw : Weak s (inv x0))
    (hround : ∀ x, ok x → Sm P c (inv x) (Kn (RoundC inv ok μ x) K)) : Sm P (.loop c) s K := by
  refine Sm.weak hw (Sm.loop (fun n s => ∃ x, ok x ∧ μ x = n ∧ Weak s (inv x)) ⟨μ x0, x0, h0, rfl, rfl, fun _ _ h => h, fun _ _ h => h⟩ fun n s' ⟨x, h1, h2, h3⟩ => ?_)
  refine Sm.weak h3 ((hround x h1).mono fun e s'' h => ?_)
  cases e with
  | normal => obtain ⟨y, g1, g2, g3⟩ := h; exact ⟨μ y, by omega, y, g1, rfl, g3⟩
  | _ => exact h
theorem RoundC.mk {α : Type} {inv : α → St} {ok : α → Prop} {μ : α → Nat} {x : α} {s' : St} (y : α) (h1 : ok y) (h2 : μ y < μ x) (h3 : s'.N = (inv y).N) (h4 : subE s'.E (inv y).E) (h5 : subS s'.σ (inv y).σ) : RoundC inv ok μ x s' :=
  ⟨y, h1, h2, Weak.of h3.symm h4 h5⟩
theorem Cont.go {d : Code} {K : Exit → St → Prop} (h : Sm P d s K) : Cont P d K s := h
/-- Is an object there? -/
def subS' (σ : Sto) (σ1 : Sto) : Prop := subS σ σ1
theorem RetK.own {l : List ResultVar} {σ1 : Sto} {r : TV} {e : Exit} (he : e = .normal ∨ e = .ret) (h : retOf P s l = some r) (h' : subS s.σ σ1) : RetK P l σ1 r e s := ⟨he, [], h, subS_ok h'⟩
theorem RetK.im {l : List ResultVar} {r : TV} {e : Exit} (he : e = .normal ∨ e = .ret) (ks : List Nat) (h : retOf P (s.frzAll ks) l = some r) : RetK P l [] r e s := ⟨he, ks, h, fun k o hk => by rw [get_nil] at hk; cases hk⟩

/-! What 'simp' may look into: the frame, not what is left to do. -/
theorem Cont_congr {d : Code} {K : Exit → St → Prop} {s s' : St} (h : s = s') : Cont P d K s = Cont P d K s' := by rw [h]
theorem Sm_congr {d : Code} {K : Exit → St → Prop} {s s' : St} (h : s = s') : Sm P d s K = Sm P d s' K := by rw [h]
theorem Kn_congr {R : St → Prop} {K : Exit → St → Prop} {e : Exit} {s s' : St} (h : s = s') : Kn R K e s = Kn R K e s' := by rw [h]
theorem Kb_congr {n : Nat} {K : Exit → St → Prop} {e : Exit} {s s' : St} (h : s = s') : Kb n K e s = Kb n K e s' := by rw [h]
theorem wpO_congr {o : Oper} {K : St → Prop} {s s' : St} (h : s = s') : wpO P o s K = wpO P o s' K := by rw [h]
theorem opsW_congr {ops : Array Oper} {l : List Oper} {K : St → Prop} {s s' : St} (h : s = s') : opsW P ops l s K = opsW P ops l s' K := by rw [h]
theorem qW_congr {ops : Array Oper} {l : List Oper} {K : St → Prop} {s s' : St} (h : s = s') : qW P ops l s K = qW P ops l s' K := by rw [h]
theorem RoundC_congr {α : Type} {inv : α → St} {ok : α → Prop} {μ : α → Nat} {x : α} {s s' : St} (h : s = s') : RoundC inv ok μ x s = RoundC inv ok μ x s' := by rw [h]
theorem RetK_congr {l : List ResultVar} {σ1 : Sto} {r : TV} {e : Exit} {s s' : St} (h : s = s') : RetK P l σ1 r e s = RetK P l σ1 r e s' := by rw [h]
theorem CallQ_congr {g : FuncId} {xs : List TV} {K : TV → Prop} {t : Tg K} {σ σ' : Sto} (h : σ = σ') : CallQ P σ g xs K t = CallQ P σ' g xs K t := by rw [h]
theorem CallG_congr {g d : Nat} {xs : List TV} {K : St → Prop} {t : Tg K} {s s' : St} (h : s = s') : CallG P s g xs d K t = CallG P s' g xs d K t := by rw [h]
theorem condK_congr {x : Operand} {c d : Code} {K : Exit → St → Prop} {s s' : St} (h : s = s') : condK P x c d s K = condK P x c d s' K := by rw [h]
theorem opsW_nil {ops : Array Oper} {s : St} {K : St → Prop} : opsW P ops [] s K = K s := rfl
theorem opsW_cons {ops : Array Oper} {o : Oper} {r : List Oper} {s : St} {K : St → Prop} : opsW P ops (o :: r) s K = gdP (gdOf ops s.E o) (wpO P o s fun s' => opsW P ops r s' K)
    (match o.dst with
      | some d => d < s.N ∧ opsW P ops r (s.put d (.tp [])) K
      | none => opsW P ops r s K) .mk .mk := rfl
theorem qW_nil {ops : Array Oper} {s : St} {K : St → Prop} : qW P ops [] s K = K s := rfl
theorem qW_cons {ops : Array Oper} {o : Oper} {r : List Oper} {s : St} {K : St → Prop} : qW P ops (o :: r) s K = match o.dst with
    | some d => d < s.N ∧ gdP (gdOf ops s.E o) (match o.op with
        | .call c => match c.callee with
          | .value f => match (opd s.E f).bind calleeOf, opsT s.E c.args.toList with
            | some (g, caps), some xs => fnOk P g = true ∧ CallQ P s.σ g (xs ++ caps) (fun v => qW P ops r (s.put d v) K) .mk
            | _, _ => False
          | _ => onS (ev1 P s.E s.σ o.op) (fun v => qW P ops r (s.put d v) K) .mk
        | .buildSlice t n ps => onS (bsV P s.E t n ps) (fun ys => qW P ops r (s.put d (.c (.ik n n ys))) K) .mk
        | op => onS (ev1 P s.E s.σ op) (fun v => qW P ops r (s.put d v) K) .mk)
      (qW P ops r (s.put d (.tp [])) K) .mk .mk
    | none => False := by
  rw [qW]
  rfl
attribute [congr] Cont_congr CallG_congr CallQ_congr Sm_congr Kn_congr Kb_congr wpO_congr opsW_congr qW_congr RoundC_congr RetK_congr condK_congr

theorem wrap_i64 {x : Int} (h1 : -9223372036854775808 ≤ x) (h2 : x ≤ 9223372036854775807) : IntKind.i64.wrap x = x := IntWalk.i64_in _ ⟨h1, h2⟩

/-- Does it turn nothing? -/
def quietB : Op → Bool
  | .store .. | .box .. | .alloc _ | .makeSlice .. => false
  | .call c => match c.callee with | .builtin .append => false | _ => true
  | _ => true
def headN (ops : Array Oper) : Nat := (ops.toList.takeWhile fun o => quietB o.op).length
/-- The operations in the text's order, up to the first one that turns something; then the others. -/
def dW (P : Program) (ops : Array Oper) : List Oper → St → (St → Prop) → Prop
  | [], s, K => K s
  | o :: r, s, K => if quietB o.op = true then qW P ops [o] s (fun s' => dW P ops r s' K) else opsW P ops (o :: r) s K
theorem dW_nil {ops : Array Oper} {s : St} {K : St → Prop} : dW P ops [] s K = K s := rfl
theorem dW_cons {ops : Array Oper} {o : Oper} {r : List Oper} {s : St} {K : St → Prop} : dW P ops (o :: r) s K = if quietB o.op = true then qW P ops [o] s (fun s' => dW P ops r s' K) else opsW P ops (o :: r) s K := rfl
theorem qW_two {ops : Array Oper} {o : Oper} {r : List Oper} {s : St} {K : St → Prop} : qW P ops (o :: r) s K = qW P ops [o] s (fun s' => qW P ops r s' K) := rfl
theorem qW1_mono {ops : Array Oper} {o : Oper} {s : St} {K K' : St → Prop} (hK : ∀ s, K s → K' s) (h : qW P ops [o] s K) : qW P ops [o] s K' := by
  unfold qW gdP onS at h ⊢
  simp only [qW] at h ⊢
  split at h
  · refine ⟨h.1, ?_⟩
    have h := h.2
    split at h
    · split at h
      · split at h
        · split at h
          · obtain ⟨h1, ys, v, h2, h3, h4, h5⟩ := h
            exact ⟨h1, ys, v, h2, h3, h4, hK _ h5⟩
          · exact h.elim
        · split at h
          · exact hK _ h
          · exact h.elim
      · split at h
        · exact hK _ h
        · exact h.elim
      · split at h
        · exact hK _ h
        · exact h.elim
    · exact hK _ h
    · exact h.elim
  · exact h.elim
theorem dW_qW {ops : Array Oper} : ∀ {l : List Oper} {s : St} {K : St → Prop}, dW P ops l s K → qW P ops (l.take (l.takeWhile fun o => quietB o.op).length) s fun s' => opsW P ops (l.drop (l.takeWhile fun o => quietB o.op).length) s' K
  | [], s, K, h => h
  | o :: r, s, K, h => by
    rw [dW_cons] at h
    by_cases hq : quietB o.op = true
    · rw [if_pos hq] at h
      simp only [List.takeWhile_cons, hq, if_true, List.length_cons, List.take_succ_cons, List.drop_succ_cons]
      rw [qW_two]
      exact qW1_mono (fun s' h' => dW_qW h') h
    · rw [if_neg hq] at h
      simp only [List.takeWhile_cons, hq, if_false, List.length_nil, List.take_zero, List.drop_zero]
      exact h
theorem dW_step {ops : Array Oper} {o : Oper} {r : List Oper} {s : St} {K : St → Prop} : dW P ops (o :: r) s K = if quietB o.op = true then (match o.dst with
    | some d => d < s.N ∧ gdP (gdOf ops s.E o) (match o.op with
        | .call c => match c.callee with
          | .value f => match (opd s.E f).bind calleeOf, opsT s.E c.args.toList with
            | some (g, caps), some xs => fnOk P g = true ∧ CallQ P s.σ g (xs ++ caps) (fun v => dW P ops r (s.put d v) K) .mk
            | _, _ => False
          | _ => onS (ev1 P s.E s.σ o.op) (fun v => dW P ops r (s.put d v) K) .mk
        | .buildSlice t n ps => onS (bsV P s.E t n ps) (fun ys => dW P ops r (s.put d (.c (.ik n n ys))) K) .mk
        | op => onS (ev1 P s.E s.σ op) (fun v => dW P ops r (s.put d v) K) .mk)
      (dW P ops r (s.put d (.tp [])) K) .mk .mk
    | none => False) else opsW P ops (o :: r) s K := by
  rw [dW_cons, qW]
  rfl
theorem dW_congr {ops : Array Oper} {l : List Oper} {K : St → Prop} {s s' : St} (h : s = s') : dW P ops l s K = dW P ops l s' K := by rw [h]
attribute [congr] dW_congr
/-- A region whose order is open: what turns something comes last. -/
theorem Sm.drawT {id : Nat} {ops : Array Oper} {K : Exit → St → Prop} (hm : P.follows .mixedOrders = true) (hb : drawB ops (headN ops) = true)
    (h : dW P ops ops.toList s (K .normal)) : Sm P (.region id ops true) s K := Sm.draw hm hb (dW_qW h)

/-- A guard that is not known yet. -/
theorem gdP_split {b : Bool} {X Y : Prop} {t : Tg X} {t' : Tg Y} (h1 : b = true → gdP (some true) X Y t t') (h2 : b = false → gdP (some false) X Y t t') : gdP (some b) X Y t t' := by
  cases b
  · exact h2 rfl
  · exact h1 rfl
/-- The variables that are still wanted. -/
def delN (t : Nat) : List Nat → List Nat
  | [] => []
  | m :: r => if t = m then delN t r else m :: delN t r
theorem delN_mem {t u : Nat} : ∀ {L : List Nat}, memN u (delN t L) = true → memN u L = true ∧ u ≠ t
  | [], h => by cases h
  | m :: r, h => by
    rw [delN] at h
    split at h
    · rename_i e
      obtain ⟨h1, h2⟩ := delN_mem h
      refine ⟨?_, h2⟩
      rw [memN]
      split
      · rfl
      · exact h1
    · rename_i e
      rw [memN] at h ⊢
      split at h
      · rename_i e2
        exact ⟨by rw [if_pos e2], fun e3 => e (by rw [← e3, e2])⟩
      · rename_i e2
        obtain ⟨h1, h2⟩ := delN_mem h
        exact ⟨by rw [if_neg e2]; exact h1, h2⟩
def keepE (L : List Nat) : Env → Env
  | [] => []
  | (t, x) :: r => if memN t L then (t, x) :: keepE (delN t L) r else keepE L r
theorem keepE_get : ∀ {E : Env} {L : List Nat} {t : Nat} {x : TV}, get (keepE L E) t = some x → memN t L = true ∧ get E t = some x
  | [], L, t, x, h => by cases h
  | (u, y) :: r, L, t, x, h => by
    rw [keepE] at h
    split at h
    · rename_i hu
      rw [get_cons] at h ⊢
      split
      · rename_i e
        subst e
        rw [if_pos rfl] at h
        exact ⟨hu, h⟩
      · rename_i e
        rw [if_neg e] at h
        obtain ⟨h1, h2⟩ := keepE_get h
        exact ⟨(delN_mem h1).1, h2⟩
    · rename_i hu
      obtain ⟨h1, h2⟩ := keepE_get h
      refine ⟨h1, ?_⟩
      rw [get_cons, if_neg fun e => hu (by subst e; exact h1)]
      exact h2
theorem Sm.keep (L : List Nat) {c : Code} {K : Exit → St → Prop} (h : Sm P c ⟨s.N, keepE L s.E, s.σ⟩ K) : Sm P c s K :=
  Sm.weak (s' := ⟨s.N, keepE L s.E, s.σ⟩) ⟨rfl, fun t x hx => (keepE_get (L := L) (E := s.E) hx).2, fun _ _ h => h⟩ h
theorem Cont.keep (L : List Nat) {d : Code} {K : Exit → St → Prop} (h : Sm P d ⟨s.N, keepE L s.E, s.σ⟩ K) : Cont P d K s := Sm.keep L h
/-- A loop; what it does not turn is kept. 'M': the variables that it turns; 'u x': what they are at a round's head; 'τ x': the objects then. -/
theorem Sm.turns {α : Type} {c : Code} {K : Exit → St → Prop} (M : List Nat) (u : α → Env) (τ : α → Sto) (ok : α → Prop) (μ : α → Nat) (x0 : α) (h0 : ok x0) (hE : subE s.E (u x0)) (hS : subS s.σ (τ x0))
    (hround : ∀ x, ok x → Sm P c ⟨s.N, u x ++ dropE M s.E, τ x⟩ (Kn (RoundC (fun x => ⟨s.N, u x ++ dropE M s.E, τ x⟩) ok μ x) K)) : Sm P (.loop c) s K := by
  refine Sm.rounds (fun x => ⟨s.N, u x ++ dropE M s.E, τ x⟩) ok μ x0 h0 ⟨rfl, fun t x hx => ?_, subS_ok hS⟩ hround
  simp only at hx
  rw [get_append] at hx
  cases hu : get (u x0) t with
  | some y =>
    rw [hu] at hx
    obtain rfl := Option.some.inj hx
    exact subE_ok hE t _ hu
  | none =>
    rw [hu] at hx
    exact dropE_get hx
end
end Go.VC
