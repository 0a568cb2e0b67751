/- Regions, code, and the contract of a function from its code. -/
import Derived.Test.YtdedakeldfgjbaaV9
set_option linter.unusedSimpArgs false
set_option linter.unusedVariables false
namespace Go.VC
open Go Go.RowKit
section
variable {w w' : World} {D D' D0 : Nat → Prop} {κ κ' : Nat → Value} {σ : Sto} {E : Env} {a : Act} {B : Nat} {w0 : World} {s : St} {P : Program}

/-- Is an operation performed? ('.tp []' stands for what was not performed.) -/
def gdOf (ops : Array Oper) (E : Env) (o : Oper) : Option Bool :=
  match o.guard with
  | none => some true
  | some (j, want) => match (ops[j]?).bind (·.dst) with
    | some d => match get E d with
      | some (.c (.im (.sc (.bool b)))) => some (b == want)
      | some (.tp []) => some false
      | _ => none
    | none => none
def opsW (P : Program) (ops : Array Oper) : List Oper → St → (St → Prop) → Prop
  | [], s, K => K s
  | o :: r, s, K => gdP (gdOf ops s.E o) (wpO P o s fun s' => opsW P ops r s' K)
    (match o.dst with
      | some d => d < s.N ∧ opsW P ops r (s.put d (.tp [])) K
      | none => opsW P ops r s K) .mk .mk

theorem gdOf_ok (hE : EnvOk w D κ σ E a.tmps) {ops : Array Oper} {o : Oper} {b : Bool} (h : gdOf ops E o = some b) : Region.wanted o (yielded ops a.tmps) = b := by
  unfold gdOf at h
  split at h
  · rename_i hg; obtain rfl := Option.some.inj h; simp [Region.wanted, hg]
  · rename_i j want hg
    split at h
    · rename_i d hd
      split at h
      · rename_i b' hb'
        obtain rfl := Option.some.inj h
        obtain ⟨h1, h2⟩ := hE d _ hb'
        have h3 : a.tmps[d]? = some (.bool b') := by
          generalize hv : a.tmps.getD d undef = v at h2
          cases h2 with
          | im _ _ h2 => cases h2; rw [← hv]; simp [Array.getD, h1]
        simp [Region.wanted, hg, yielded, hd, h3]
      · rename_i hb'
        obtain rfl := Option.some.inj h
        obtain ⟨h1, vs, h2, h3⟩ := hE d _ hb'
        have : vs = [] := List.eq_nil_of_length_eq_zero h3.1.symm
        subst this
        have h4 : a.tmps[d]? = some (.tuple #[]) := by rw [← h2]; simp [Array.getD, h1]
        simp [Region.wanted, hg, yielded, hd, h4]
      · cases h
    · cases h

theorem opsW_ok {ops : Array Oper} {Q : Exit → Act → World → Prop} : ∀ {l : List Oper} {s : St} {a : Act} {w : World} {K : St → Prop}, opsW P ops l s K → RelE B D0 w0 s a w →
    (∀ s' a' w', K s' → RelE B D0 w0 s' a' w' → Q .normal a' w') → wpList P ops Q l a w
  | [], s, a, w, K, h, hr, hn => hn _ _ _ h hr
  | o :: r, s, a, w, K, h, hr, hn => by
    obtain ⟨D, κ, hr'⟩ := id hr
    unfold opsW gdP at h
    unfold wpList
    split at h
    · rename_i hg
      rw [if_pos (gdOf_ok hr'.env hg)]
      exact .inl (wpO_ok h hr fun s' a' w' hK hr'' => opsW_ok hK hr'' hn)
    · rename_i hg
      have hf := gdOf_ok hr'.env hg
      rw [if_neg (by rw [hf]; simp)]
      split at h
      · rename_i d hd
        rw [hd]
        exact opsW_ok h.2 ⟨D, κ, hr'.put h.1 ⟨[], rfl, rfl, by simp⟩⟩ hn
      · rename_i hd
        rw [hd]
        exact opsW_ok h hr hn
    · exact h.elim

/-- What code comes to: 'K' of how it is left and of the frame then. -/
def Sm (P : Program) (c : Code) (s : St) (K : Exit → St → Prop) : Prop :=
  ∀ B D0 w0 a w, RelE B D0 w0 s a w → c.wp P (fun e a' w' => ∃ s', K e s' ∧ RelE B D0 w0 s' a' w') a w
/-- On, if the code was left in the normal way. -/
def Kn (next : St → Prop) (K : Exit → St → Prop) : Exit → St → Prop
  | .normal, s => next s
  | e, s => K e s
/-- Behind a block. -/
def Kb (id : Nat) (K : Exit → St → Prop) : Exit → St → Prop
  | .exit id', s => if id' = id then K .normal s else K (.exit id') s
  | e, s => K e s

theorem Sm.mono {c : Code} {K K' : Exit → St → Prop} (h : Sm P c s K) (hk : ∀ e s, K e s → K' e s) : Sm P c s K' :=
  fun B D0 w0 a w hr => wp_mono (h B D0 w0 a w hr) fun e a' w' ⟨s', h1, h2⟩ => ⟨s', hk _ _ h1, h2⟩
theorem Sm.skip {K : Exit → St → Prop} (h : K .normal s) : Sm P .skip s K := fun _ _ _ _ _ hr => wp_skip ⟨s, h, hr⟩
theorem Sm.exit {K : Exit → St → Prop} {id : Nat} (h : K (.exit id) s) : Sm P (.exit id) s K := fun _ _ _ _ _ hr => wp_exit ⟨s, h, hr⟩
theorem Sm.ret {K : Exit → St → Prop} (h : K .ret s) : Sm P .ret s K := fun _ _ _ _ _ hr => wp_ret ⟨s, h, hr⟩
/-- What is left to do. -/
def Cont (P : Program) (d : Code) (K : Exit → St → Prop) (s : St) : Prop := Sm P d s K
theorem Sm.seq {c d : Code} {K : Exit → St → Prop} (h : Sm P c s (Kn (Cont P d K) K)) : Sm P (.seq c d) s K := fun B D0 w0 a w hr => by
  refine wp_seq (wp_mono (h B D0 w0 a w hr) fun e a' w' ⟨s', h1, h2⟩ => ?_)
  cases e with
  | normal => exact h1 B D0 w0 a' w' h2
  | _ => exact ⟨s', h1, h2⟩
theorem Sm.cond {c d : Code} {x : Operand} {b : Bool} {K : Exit → St → Prop} (hx : opd s.E x = some (.c (.im (.sc (.bool b))))) (h1 : b = true → Sm P c s K) (h2 : b = false → Sm P d s K) : Sm P (.cond x c d) s K := fun B D0 w0 a w hr => by
  obtain ⟨D, κ, hr'⟩ := id hr
  have hv := opd_ok hr'.env hx
  generalize hav : a.eval x = v at hv
  cases hv with
  | im _ _ hv =>
    cases hv
    refine wp_cond hav ?_
    cases b
    · exact h2 rfl B D0 w0 a w hr
    · exact h1 rfl B D0 w0 a w hr
theorem Sm.block {id : Nat} {c : Code} {K : Exit → St → Prop} (h : Sm P c s (Kb id K)) : Sm P (.block id c) s K := fun B D0 w0 a w hr => by
  refine wp_block (wp_mono (h B D0 w0 a w hr) fun e a' w' ⟨s', h1, h2⟩ => ?_)
  cases e with
  | exit id' =>
    simp only [Exit.inBlock, Kb] at *
    split
    · rename_i he; rw [if_pos he] at h1; exact ⟨s', h1, h2⟩
    · rename_i he; rw [if_neg he] at h1; exact ⟨s', h1, h2⟩
  | _ => exact ⟨s', h1, h2⟩
theorem Sm.region {id : Nat} {ops : Array Oper} {K : Exit → St → Prop} (h : opsW P ops ops.toList s (K .normal)) : Sm P (.region id ops false) s K := fun B D0 w0 a w hr =>
  wp_region_list (opsW_ok h hr fun s' a' w' h1 h2 => ⟨s', h1, h2⟩)
/-- A loop: what holds at each round's head, by a number that goes down. -/
theorem Sm.loop {c : Code} {K : Exit → St → Prop} (I : Nat → St → Prop) (h0 : ∃ n, I n s) (hround : ∀ n s, I n s → Sm P c s (Kn (fun s' => ∃ m, m < n ∧ I m s') K)) : Sm P (.loop c) s K := fun B D0 w0 a w hr => by
  obtain ⟨n0, h0⟩ := h0
  -- the least number serves as the measure
  have hex : ∀ a w, (∃ n s, I n s ∧ RelE B D0 w0 s a w) → ∃ n, (∃ s, I n s ∧ RelE B D0 w0 s a w) ∧ ∀ m, m < n → ¬ ∃ s, I m s ∧ RelE B D0 w0 s a w := by
    intro a w ⟨n, hn⟩
    induction n using Nat.strongRecOn with
    | _ n ih =>
      by_cases h : ∃ m, m < n ∧ ∃ s, I m s ∧ RelE B D0 w0 s a w
      · obtain ⟨m, hm, hs⟩ := h; exact ih m hm hs
      · exact ⟨n, hn, fun m hm hs => h ⟨m, hm, hs⟩⟩
  classical
  refine wp_loop (fun a w => ∃ n s, I n s ∧ RelE B D0 w0 s a w) (fun a w => if h : ∃ n s, I n s ∧ RelE B D0 w0 s a w then (hex a w h).choose else 0) ⟨n0, s, h0, hr⟩ fun a w hI => ?_
  obtain ⟨⟨s1, hs1, hr1⟩, hleast⟩ := (hex a w hI).choose_spec
  refine wp_mono (hround _ s1 hs1 B D0 w0 a w hr1) fun e a' w' ⟨s', h1, h2⟩ => ?_
  cases e with
  | normal =>
    obtain ⟨m, hm, hIm⟩ := h1
    have hI' : ∃ n s, I n s ∧ RelE B D0 w0 s a' w' := ⟨m, s', hIm, h2⟩
    refine ⟨hI', ?_⟩
    simp only [dif_pos hI, dif_pos hI']
    refine Nat.lt_of_le_of_lt ?_ hm
    rcases Nat.lt_or_ge m (hex a' w' hI').choose with h | h
    · exact absurd ⟨s', hIm, h2⟩ ((hex a' w' hI').choose_spec.2 m h)
    · exact h
  | _ => exact ⟨s', h1, h2⟩

/-- What is known less. -/
def Weak (s s' : St) : Prop := s'.N = s.N ∧ (∀ t x, get s'.E t = some x → get s.E t = some x) ∧ (∀ k o, get s'.σ k = some o → get s.σ k = some o)
theorem RelE.weak {s' : St} (h : RelE B D0 w0 s a w) (hw : Weak s s') : RelE B D0 w0 s' a w := by
  obtain ⟨D, κ, h⟩ := h
  obtain ⟨h1, h2, h3⟩ := hw
  have hk : ∀ k, KeyOk κ s.σ κ s'.σ k := fun k => ⟨fun _ _ => rfl, fun t e m cs hg => ⟨m, cs, h3 _ _ hg, Nat.le_refl _, fun _ => rfl⟩⟩
  have hs : ∀ k, (get s'.σ k).isSome = true → (get s.σ k).isSome = true := fun k hk => by
    obtain ⟨o, ho⟩ := Option.isSome_iff_exists.1 hk
    rw [h3 k o ho]; rfl
  refine ⟨D, κ, h.below, h.low, h.grow, h.new, h.defers, by rw [h1]; exact h.size, fun t x hx => ⟨(h.env t x (h2 t x hx)).1, (h.env t x (h2 t x hx)).2.step (fun _ h => h) (fun _ _ => rfl) fun k _ => hk k⟩, ?_⟩
  refine ⟨fun k t cs hg => ?_, fun k t e n cs hg => h.rs.vec k t e n cs (h3 _ _ hg), fun k k' b h1 h2 => h.rs.inj k k' b (hs k h1) (hs k' h2), fun k b h1 => h.rs.apart k b (hs k h1), h.rs.dom⟩
  obtain ⟨b, vs, g1, g2, g3, g4, g5⟩ := h.rs.box k t cs (h3 _ _ hg)
  exact ⟨b, vs, g1, g2, g3, g4.imp fun x y _ hxy => hxy.step (fun _ h => h) (fun _ _ => rfl) fun k _ => hk k, g5⟩
theorem Sm.weak {c : Code} {s' : St} {K : Exit → St → Prop} (hw : Weak s s') (h : Sm P c s' K) : Sm P c s K := fun B D0 w0 a w hr => h B D0 w0 a w (hr.weak hw)

/-- A function's results. -/
def resOf (P : Program) (s : St) : List ResultVar → Option (List TV)
  | [] => some []
  | .tmp t :: r => (get s.E t).bind fun x => (resOf P s r).map (x :: ·)
  | .cell t ty :: r => ((get s.E t).bind fun x => evLoad P s.σ ty x).bind fun y => (resOf P s r).map (y :: ·)
/-- The one result, or all of them, as trees. -/
def retOf (P : Program) (s : St) (l : List ResultVar) : Option TV :=
  (resOf P s l).bind fun xs => (argTs s.σ xs).map fun
    | [x] => x
    | ys => .tp ys
/-- What the parameters are at first. -/
def argE : Nat → List TV → Env
  | _, [] => []
  | n, x :: r => (n, x) :: argE (n + 1) r
theorem argE_get : ∀ (xs : List TV) (n t : Nat) (x : TV), get (argE n xs) t = some x → n ≤ t ∧ xs[t - n]? = some x
  | [], n, t, x, h => by simp [argE, Go.VC.get] at h
  | y :: r, n, t, x, h => by
    rw [argE, get_cons] at h
    split at h
    · rename_i ht; subst ht; exact ⟨Nat.le_refl _, by simpa using h⟩
    · obtain ⟨h1, h2⟩ := argE_get r (n + 1) t x h
      refine ⟨by omega, ?_⟩
      have : t - n = (t - (n + 1)) + 1 := by omega
      rw [this]; simpa using h2

def rvRun (tmps : Array Value) : ResultVar → Go.Sem Value
  | .tmp t => pure (tmps.getD t undef)
  | .cell c t => do loadVar t (← asAddr (tmps.getD c undef))
theorem results_eq (fn : Func) (tmps : Array Value) : results fn tmps = (do let vs ← fn.results.mapM (rvRun tmps); pure (if h : vs.size = 1 then vs[0] else .tuple vs)) := rfl
theorem run_resOf (h : Rel B D0 w0 D κ s a w) : ∀ {l : List ResultVar} {xs : List TV}, resOf P s l = some xs → ∃ vs : List Value, All2 (RT w D κ s.σ) xs vs ∧ (l.mapM (rvRun a.tmps)).run P w = .ok vs w
  | [], xs, hx => by obtain rfl := Option.some.inj hx; exact ⟨[], ⟨rfl, by simp⟩, by simp⟩
  | .tmp t :: r, xs, hx => by
    simp only [resOf] at hx
    obtain ⟨x, h1, hx⟩ := Option.bind_eq_some_iff.1 hx
    obtain ⟨ys, h2, rfl⟩ := Option.map_eq_some_iff.1 hx
    obtain ⟨vs, g1, g2⟩ := run_resOf h h2
    have g0 : (rvRun a.tmps (.tmp t)).run P w = .ok (a.tmps.getD t undef) w := rfl
    refine ⟨a.tmps.getD t undef :: vs, ⟨by simp [g1.1], fun j y z hy hz => ?_⟩, by simp only [List.mapM_cons, Sem.run_bind, g0, Result.andThen, g2]; rfl⟩
    cases j with
    | zero => simp only [List.getElem?_cons_zero, Option.some.injEq] at hy hz; subst hy; subst hz; exact (h.env t x h1).2
    | succ j => exact g1.2 j y z (by simpa using hy) (by simpa using hz)
  | .cell t ty :: r, xs, hx => by
    simp only [resOf] at hx
    obtain ⟨x, h1, hx⟩ := Option.bind_eq_some_iff.1 hx
    obtain ⟨ys, h2, rfl⟩ := Option.map_eq_some_iff.1 hx
    obtain ⟨p, h3, h4⟩ := Option.bind_eq_some_iff.1 h1
    obtain ⟨vs, g1, g2⟩ := run_resOf h h2
    obtain ⟨u, g3, g4⟩ := evLoad_ok (P := P) h.rs h4 (h.env t p h3).2
    obtain ⟨ad, had⟩ : ∃ ad, a.tmps.getD t undef = .pointer (some ad) := by
      have := (h.env t p h3).2
      unfold evLoad at h4
      split at h4
      · obtain ⟨q, hq, _⟩ := Option.bind_eq_some_iff.1 h4
        obtain ⟨ad, had, _⟩ := ptr_ok h.rs (cs := q.1) (off := q.2) hq this
        exact ⟨ad, had⟩
      · cases h4
    rw [had] at g3
    have g0 : (rvRun a.tmps (.cell t ty)).run P w = .ok u w := by
      show (do loadVar ty (← asAddr (a.tmps.getD t undef)) : Go.Sem Value).run P w = _
      rw [had]
      simpa [Instr.loadAt, Instr.sureAddr, asAddr] using g3
    refine ⟨u :: vs, ⟨by simp [g1.1], fun j y z hy hz => ?_⟩, by simp only [List.mapM_cons, Sem.run_bind, g0, Result.andThen, g2]; rfl⟩
    cases j with
    | zero => simp only [List.getElem?_cons_zero, Option.some.injEq] at hy hz; subst hy; subst hz; exact g4
    | succ j => exact g1.2 j y z (by simpa using hy) (by simpa using hz)

/-- **A function's contract, from its code.** -/
def RetK (P : Program) (l : List ResultVar) (r : TV) : Exit → St → Prop := fun e s => (e = .normal ∨ e = .ret) ∧ retOf P s l = some r
theorem FnP.of {g : FuncId} {fn : Func} {c : Code} {args : List TV} {r : TV} (hf : P.funcs[g]? = some fn) (hb : fn.body = some c) (hN : args.length ≤ fn.ntmps)
    (h : Sm P c ⟨fn.ntmps, argE 0 args, []⟩ (RetK P fn.results.toList r)) : FnP P g args r := by
  intro w D vs hD hvs
  refine calls_of_wp hf hb ?_
  have hsz : (vs.toArray ++ Array.replicate (fn.ntmps - vs.toArray.size) undef).size = fn.ntmps := by have := hvs.1; simp; omega
  have hrel : Rel w.heap.size D w D nok ⟨fn.ntmps, argE 0 args, []⟩ { tmps := vs.toArray ++ Array.replicate (fn.ntmps - vs.toArray.size) undef, defers := [] } w := by
    refine ⟨Below.refl _ _, rfl, fun _ h => h, fun _ h => .inl h, rfl, hsz, fun t x hx => ?_, ⟨fun _ _ _ h => by simp [Go.VC.get] at h, fun _ _ _ _ _ h => by simp [Go.VC.get] at h, fun _ _ _ h => by simp [Go.VC.get] at h, fun _ _ h => by simp [Go.VC.get] at h, hD⟩⟩
    obtain ⟨_, h1⟩ := argE_get args 0 t x hx
    simp only [Nat.sub_zero] at h1
    obtain ⟨v, hv, hr⟩ := hvs.get h1
    have hlt := (List.getElem?_eq_some_iff.1 hv).1
    refine ⟨by rw [hsz]; have := hvs.1; omega, ?_⟩
    have : (vs.toArray ++ Array.replicate (fn.ntmps - vs.toArray.size) undef).getD t undef = v := by
      rw [Array.getD_eq_getD_getElem?, Array.getElem?_append_left (by simpa using hlt)]
      simp [hv]
    rw [this]; exact hr
  refine wp_mono (h _ _ _ _ _ ⟨D, nok, hrel⟩) fun e a' w' ⟨s', ⟨he, hres⟩, D', κ', hr⟩ => ?_
  obtain ⟨xs, hxs, hret⟩ := Option.bind_eq_some_iff.1 hres
  obtain ⟨ys, hys, hret⟩ := Option.map_eq_some_iff.1 hret
  obtain ⟨us, g1, g2⟩ := run_resOf hr hxs
  have g3 := argTs_ok hr.rs hys g1
  have hD'' : ∀ b, withOwn D' κ' s'.σ b → D b ∨ (w.heap.size ≤ b ∧ b < w'.heap.size) := fun b hb => by
    rcases hb with hb | ⟨k, hk, hb⟩
    · rcases hr.new b hb with h | h
      · exact .inl h
      · exact .inr ⟨h, hr.rs.dom b hb⟩
    · refine .inr ⟨?_, hr.rs.lt hk hb⟩
      cases ho : get s'.σ k with
      | none => simp [ho] at hk
      | some o =>
        cases o with
        | box t cs =>
          obtain ⟨b', vs, q1, q2, _⟩ := hr.rs.box k t cs ho
          rw [q1] at hb; simp [blk] at hb; subst hb; exact q2
        | vec t e n cs =>
          obtain ⟨_, xs, q1, _⟩ := hr.rs.vec k t e n cs ho
          obtain ⟨q, c, hs⟩ := ownsRow_slice q1
          rw [hs, blk_slice, ← hs] at hb
          exact (q1.lt b hb).1
  have g4 : All2 (RP w' (fun b => D b ∨ (w.heap.size ≤ b ∧ b < w'.heap.size))) ys us := g3.imp fun x y _ hxy => hxy.step hD'' (fun _ _ => rfl) fun _ _ => KeyOk.refl _ _ _
  have hall1 : ∀ y ∈ ys, ∀ v, RP w' (fun b => D b ∨ (w.heap.size ≤ b ∧ b < w'.heap.size)) y v → RT1 w' (fun b => D b ∨ (w.heap.size ≤ b ∧ b < w'.heap.size)) nok [] y v := by
    have : ∀ {xs ys : List TV}, argTs s'.σ xs = some ys → ∀ y ∈ ys, ∃ x, argT s'.σ x = some y := by
      intro xs
      induction xs with
      | nil => intro ys h y hy; obtain rfl := Option.some.inj h; simp at hy
      | cons x r ih =>
        intro ys h y hy
        simp only [argTs] at h
        obtain ⟨z, hz, h⟩ := Option.bind_eq_some_iff.1 h
        obtain ⟨zs, hzs, rfl⟩ := Option.map_eq_some_iff.1 h
        rcases List.mem_cons.1 hy with rfl | hy
        · exact ⟨x, hz⟩
        · exact ih hzs y hy
    intro y hy v hv
    obtain ⟨x, hx⟩ := this hys y hy
    cases x with
    | c x => obtain ⟨z, _, rfl⟩ := Option.map_eq_some_iff.1 hx; exact hv
    | ag cs => obtain ⟨z, _, rfl⟩ := Option.map_eq_some_iff.1 hx; exact hv
    | tp ts => cases hx
  have hmap : (fn.results.mapM (rvRun a'.tmps)).run P w' = .ok us.toArray w' := by
    rw [Array.mapM_eq_mapM_toList]
    show (List.toArray <$> List.mapM (rvRun a'.tmps) fn.results.toList).run P w' = _
    rw [map_eq_pure_bind]
    simp only [Sem.run_bind, g2, Result.andThen]
    rfl
  have hfin : ∃ v, (results fn a'.tmps).run P w' = .ok v w' ∧ RP w' (fun b => D b ∨ (w.heap.size ≤ b ∧ b < w'.heap.size)) r v := by
    rw [results_eq]
    simp only [Sem.run_bind, hmap, Result.andThen]
    have hl := g4.1
    cases us with
    | nil =>
      have : ys = [] := List.eq_nil_of_length_eq_zero (by simpa using hl)
      subst this
      subst hret
      exact ⟨.tuple #[], by simp, [], rfl, rfl, by simp⟩
    | cons u us =>
      cases us with
      | nil =>
        cases ys with
        | nil => simp at hl
        | cons y ys =>
          have : ys = [] := List.eq_nil_of_length_eq_zero (by simpa using hl)
          subst this
          subst hret
          exact ⟨u, by simp, g4.2 0 _ _ rfl rfl⟩
      | cons u2 us =>
        cases ys with
        | nil => simp at hl
        | cons y ys =>
          cases ys with
          | nil => simp at hl
          | cons y2 ys =>
            subst hret
            refine ⟨.tuple (u :: u2 :: us).toArray, by simp, _, rfl, ⟨hl, fun j p q hp hq => hall1 p (List.mem_of_getElem? hp) q (g4.2 j p q hp hq)⟩⟩
  obtain ⟨v, hv, hrv⟩ := hfin
  rcases he with rfl | rfl
  · exact ⟨hr.defers, v, hv, v, rfl, hr.below, hrv⟩
  · exact ⟨hr.defers, v, hv, v, rfl, hr.below, hrv⟩
end
end Go.VC
