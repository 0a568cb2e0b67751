/- Regions, code, calls, and the contract of a function from its code. -/
import Derived.Test.YtiohpbhdonlonaaW14
set_option linter.unusedSimpArgs false
set_option linter.unusedVariables false
namespace Go.VC
open Go Go.RowKit
section
variable {β : Base} {w w' : World} {ω ω' : Lab} {κ κ' : Nat → Value} {σ σ' : Sto} {E : Env} {a : Act} {s : St} {P : Program}

/-- Is an operation performed? ('.tp []' stands for what was not performed.) -/
def gdOf (ops : Array Oper) (E : Env) (o : Oper) : Option Bool :=
  match o.guard with
  | none => some true
  | some (j, want) => match (ops[j]?).bind (·.dst) with
    | some d => match get E d with
      | some (.c (.im (.sc (.bool b)))) => some (b == want)
      | some (.tp []) => some false
      | _ => none
    | none => none
def opsW (P : Program) (ops : Array Oper) : List Oper → St → (St → Prop) → Prop
  | [], s, K => K s
  | o :: r, s, K => gdP (gdOf ops s.E o) (wpO P o s fun s' => opsW P ops r s' K)
    (match o.dst with
      | some d => d < s.N ∧ opsW P ops r (s.put d (.tp [])) K
      | none => opsW P ops r s K) .mk .mk

theorem gdOf_ok (hE : EnvOk w ω κ σ E a.tmps) {ops : Array Oper} {o : Oper} {b : Bool} (h : gdOf ops E o = some b) : Region.wanted o (yielded ops a.tmps) = b := by
  unfold gdOf at h
  split at h
  · rename_i hg; obtain rfl := Option.some.inj h; simp [Region.wanted, hg]
  · rename_i j want hg
    split at h
    · rename_i d hd
      split at h
      · rename_i b' hb'
        obtain rfl := Option.some.inj h
        obtain ⟨h1, h2⟩ := hE d _ hb'
        have h3 : a.tmps[d]? = some (.bool b') := by
          generalize hv : a.tmps.getD d undef = v at h2
          cases h2 with
          | im _ _ h2 => cases h2; rw [← hv]; simp [Array.getD, h1]
        simp [Region.wanted, hg, yielded, hd, h3]
      · rename_i hb'
        obtain rfl := Option.some.inj h
        obtain ⟨h1, vs, h2, h3⟩ := hE d _ hb'
        have : vs = [] := List.eq_nil_of_length_eq_zero h3.1.symm
        subst this
        have h4 : a.tmps[d]? = some (.tuple #[]) := by rw [← h2]; simp [Array.getD, h1]
        simp [Region.wanted, hg, yielded, hd, h4]
      · cases h
    · cases h

theorem opsW_ok {ops : Array Oper} {Q : Exit → Act → World → Prop} : ∀ {l : List Oper} {s : St} {a : Act} {w : World} {K : St → Prop}, opsW P ops l s K → RelE β s a w →
    (∀ s' a' w', K s' → RelE β s' a' w' → Q .normal a' w') → wpList P ops Q l a w
  | [], s, a, w, K, h, hr, hn => hn _ _ _ h hr
  | o :: r, s, a, w, K, h, hr, hn => by
    obtain ⟨ω, κ, hr'⟩ := id hr
    unfold opsW gdP at h
    unfold wpList
    split at h
    · rename_i hg
      rw [if_pos (gdOf_ok hr'.env hg)]
      exact .inl (wpO_ok h hr fun s' a' w' hK hr'' => opsW_ok hK hr'' hn)
    · rename_i hg
      have hf := gdOf_ok hr'.env hg
      rw [if_neg (by rw [hf]; simp)]
      split at h
      · rename_i d hd
        rw [hd]
        exact opsW_ok h.2 ⟨ω, κ, hr'.put h.1 ⟨[], rfl, rfl, by simp⟩⟩ hn
      · rename_i hd
        rw [hd]
        exact opsW_ok h hr hn
    · exact h.elim

/-- What code comes to: 'K' of how it is left and of the frame then. -/
def Sm (P : Program) (c : Code) (s : St) (K : Exit → St → Prop) : Prop :=
  ∀ β a w, RelE β s a w → c.wp P (fun e a' w' => ∃ s', K e s' ∧ RelE β s' a' w') a w
/-- On, if the code was left in the normal way. -/
def Kn (next : St → Prop) (K : Exit → St → Prop) : Exit → St → Prop
  | .normal, s => next s
  | e, s => K e s
/-- Behind a block. -/
def Kb (id : Nat) (K : Exit → St → Prop) : Exit → St → Prop
  | .exit id', s => if id' = id then K .normal s else K (.exit id') s
  | e, s => K e s

theorem Sm.mono {c : Code} {K K' : Exit → St → Prop} (h : Sm P c s K) (hk : ∀ e s, K e s → K' e s) : Sm P c s K' :=
  fun β a w hr => wp_mono (h β a w hr) fun e a' w' ⟨s', h1, h2⟩ => ⟨s', hk _ _ h1, h2⟩
theorem Sm.skip {K : Exit → St → Prop} (h : K .normal s) : Sm P .skip s K := fun _ _ _ hr => wp_skip ⟨s, h, hr⟩
theorem Sm.exit {K : Exit → St → Prop} {id : Nat} (h : K (.exit id) s) : Sm P (.exit id) s K := fun _ _ _ hr => wp_exit ⟨s, h, hr⟩
theorem Sm.ret {K : Exit → St → Prop} (h : K .ret s) : Sm P .ret s K := fun _ _ _ hr => wp_ret ⟨s, h, hr⟩
/-- What is left to do. -/
def Cont (P : Program) (d : Code) (K : Exit → St → Prop) (s : St) : Prop := Sm P d s K
theorem Sm.seq {c d : Code} {K : Exit → St → Prop} (h : Sm P c s (Kn (Cont P d K) K)) : Sm P (.seq c d) s K := fun β a w hr => by
  refine wp_seq (wp_mono (h β a w hr) fun e a' w' ⟨s', h1, h2⟩ => ?_)
  cases e with
  | normal => exact h1 β a' w' h2
  | _ => exact ⟨s', h1, h2⟩
theorem Sm.cond {c d : Code} {x : Operand} {b : Bool} {K : Exit → St → Prop} (hx : opd s.E x = some (.c (.im (.sc (.bool b))))) (h1 : b = true → Sm P c s K) (h2 : b = false → Sm P d s K) : Sm P (.cond x c d) s K := fun β a w hr => by
  obtain ⟨ω, κ, hr'⟩ := id hr
  have hv := opd_ok hr'.env hx
  generalize hav : a.eval x = v at hv
  cases hv with
  | im _ _ hv =>
    cases hv
    refine wp_cond hav ?_
    cases b
    · exact h2 rfl β a w hr
    · exact h1 rfl β a w hr
theorem Sm.block {id : Nat} {c : Code} {K : Exit → St → Prop} (h : Sm P c s (Kb id K)) : Sm P (.block id c) s K := fun β a w hr => by
  refine wp_block (wp_mono (h β a w hr) fun e a' w' ⟨s', h1, h2⟩ => ?_)
  cases e with
  | exit id' =>
    simp only [Exit.inBlock, Kb] at *
    split
    · rename_i he; rw [if_pos he] at h1; exact ⟨s', h1, h2⟩
    · rename_i he; rw [if_neg he] at h1; exact ⟨s', h1, h2⟩
  | _ => exact ⟨s', h1, h2⟩
theorem Sm.region {id : Nat} {ops : Array Oper} {K : Exit → St → Prop} (h : opsW P ops ops.toList s (K .normal)) : Sm P (.region id ops false) s K := fun β a w hr =>
  wp_region_list (opsW_ok h hr fun s' a' w' h1 h2 => ⟨s', h1, h2⟩)
/-- A loop: what holds at each round's head, by a number that goes down. -/
theorem Sm.loop {c : Code} {K : Exit → St → Prop} (I : Nat → St → Prop) (h0 : ∃ n, I n s) (hround : ∀ n s, I n s → Sm P c s (Kn (fun s' => ∃ m, m < n ∧ I m s') K)) : Sm P (.loop c) s K := fun β a w hr => by
  obtain ⟨n0, h0⟩ := h0
  -- the least number serves as the measure
  have hex : ∀ a w, (∃ n s, I n s ∧ RelE β s a w) → ∃ n, (∃ s, I n s ∧ RelE β s a w) ∧ ∀ m, m < n → ¬ ∃ s, I m s ∧ RelE β s a w := by
    intro a w ⟨n, hn⟩
    induction n using Nat.strongRecOn with
    | _ n ih =>
      by_cases h : ∃ m, m < n ∧ ∃ s, I m s ∧ RelE β s a w
      · obtain ⟨m, hm, hs⟩ := h; exact ih m hm hs
      · exact ⟨n, hn, fun m hm hs => h ⟨m, hm, hs⟩⟩
  classical
  refine wp_loop (fun a w => ∃ n s, I n s ∧ RelE β s a w) (fun a w => if h : ∃ n s, I n s ∧ RelE β s a w then (hex a w h).choose else 0) ⟨n0, s, h0, hr⟩ fun a w hI => ?_
  obtain ⟨⟨s1, hs1, hr1⟩, hleast⟩ := (hex a w hI).choose_spec
  refine wp_mono (hround _ s1 hs1 β a w hr1) fun e a' w' ⟨s', h1, h2⟩ => ?_
  cases e with
  | normal =>
    obtain ⟨m, hm, hIm⟩ := h1
    have hI' : ∃ n s, I n s ∧ RelE β s a' w' := ⟨m, s', hIm, h2⟩
    refine ⟨hI', ?_⟩
    simp only [dif_pos hI, dif_pos hI']
    refine Nat.lt_of_le_of_lt ?_ hm
    rcases Nat.lt_or_ge m (hex a' w' hI').choose with h | h
    · exact absurd ⟨s', hIm, h2⟩ ((hex a' w' hI').choose_spec.2 m h)
    · exact h
  | _ => exact ⟨s', h1, h2⟩


/-- What is known less. -/
def Weak (s s' : St) : Prop := s'.N = s.N ∧ (∀ t x, get s'.E t = some x → get s.E t = some x) ∧ (∀ k o, get s'.σ k = some o → get s.σ k = some o)
theorem Rel.weak {s' : St} (h : Rel β ω κ s a w) (hw : Weak s s') : Rel β ω κ s' a w := by
  obtain ⟨h1, h2, h3⟩ := hw
  have hk : ∀ k, KeyOk κ s.σ κ s'.σ k := fun k => ⟨fun _ => rfl, fun o m hg hm => ⟨o, m, h3 _ _ hg, hm, Nat.le_refl _, fun _ => rfl⟩⟩
  have him : ∀ b, ω b = .im → ω b = .im ∧ w.heap[b]? = w.heap[b]? := fun b hb => ⟨hb, rfl⟩
  refine ⟨h.turn, fun k hk' => (h.keys k hk').trans (hk k), h.odd, h.defers, by rw [h1]; exact h.size, fun t x hx => ⟨(h.env t x (h2 t x hx)).1, (h.env t x (h2 t x hx)).2.step ⟨him, fun k _ => hk k, fun k _ o m hg hm => ⟨⟨o, m, h3 _ _ hg, hm⟩, rfl, fun _ _ _ _ _ => rfl⟩⟩⟩, ⟨fun k o hg => (h.rs.ob k o (h3 k o hg)).step rfl (fun b hb => ⟨hb, rfl⟩) him fun _ _ _ i _ => hk i, h.rs.dom⟩⟩
theorem RelE.weak {s' : St} (h : RelE β s a w) (hw : Weak s s') : RelE β s' a w := by
  obtain ⟨ω, κ, h⟩ := h
  exact ⟨ω, κ, h.weak hw⟩
theorem Sm.weak {c : Code} {s' : St} {K : Exit → St → Prop} (hw : Weak s s') (h : Sm P c s' K) : Sm P c s K := fun β a w hr => h β a w (hr.weak hw)
/-! Steps of thought: what is known is put another way. -/
theorem Sm.frz {c : Code} {K : Exit → St → Prop} (ks : List Nat) (h : Sm P c (s.frzAll ks) K) : Sm P c s K := fun β a w ⟨ω, κ, hr⟩ => by
  obtain ⟨ω', h1⟩ := hr.frzAll ks
  exact h β a w ⟨ω', κ, h1⟩
theorem Sm.share {c : Code} {K : Exit → St → Prop} (k : Nat) (hn : nnE k s.E = true) (h : Sm P c (s.share k) K) : Sm P c s K := fun β a w ⟨ω, κ, hr⟩ => by
  obtain ⟨ω', h1⟩ := hr.share k hn
  exact h β a w ⟨ω', κ, h1⟩
theorem Sm.toRow {c : Code} {K : Exit → St → Prop} (k : Nat) (hn : nnE k s.E = true) (h : Sm P c (s.toRow k) K) : Sm P c s K := fun β a w ⟨ω, κ, hr⟩ => h β a w ⟨ω, κ, hr.toRow k hn⟩

/-- A function's results. -/
def resOf (P : Program) (s : St) : List ResultVar → Option (List TV)
  | [] => some []
  | .tmp t :: r => (get s.E t).bind fun x => (resOf P s r).map (x :: ·)
  | .cell t ty :: r => ((get s.E t).bind fun x => evLoad P s.σ ty x).bind fun y => (resOf P s r).map (y :: ·)
/-- The one result, or all of them. -/
def retOf (P : Program) (s : St) (l : List ResultVar) : Option TV :=
  (resOf P s l).bind fun
    | [x] => some x
    | ys => if ys.all (fun | .tp _ => false | _ => true) then some (.tp ys) else none
/-- What the parameters are at first. -/
def argE : Nat → List TV → Env
  | _, [] => []
  | n, x :: r => (n, x) :: argE (n + 1) r
theorem argE_get : ∀ (xs : List TV) (n t : Nat) (x : TV), get (argE n xs) t = some x → n ≤ t ∧ xs[t - n]? = some x
  | [], n, t, x, h => by simp [argE, Go.VC.get] at h
  | y :: r, n, t, x, h => by
    rw [argE, get_cons] at h
    split at h
    · rename_i ht; subst ht; exact ⟨Nat.le_refl _, by simpa using h⟩
    · obtain ⟨h1, h2⟩ := argE_get r (n + 1) t x h
      refine ⟨by omega, ?_⟩
      have : t - n = (t - (n + 1)) + 1 := by omega
      rw [this]; simpa using h2

def rvRun (tmps : Array Value) : ResultVar → Go.Sem Value
  | .tmp t => pure (tmps.getD t undef)
  | .cell c t => do loadVar t (← asAddr (tmps.getD c undef))
theorem results_eq (fn : Func) (tmps : Array Value) : results fn tmps = (do let vs ← fn.results.mapM (rvRun tmps); pure (if h : vs.size = 1 then vs[0] else .tuple vs)) := rfl
theorem run_resOf (h : Rel β ω κ s a w) : ∀ {l : List ResultVar} {xs : List TV}, resOf P s l = some xs → ∃ vs : List Value, All2 (RT w ω κ s.σ) xs vs ∧ (l.mapM (rvRun a.tmps)).run P w = .ok vs w
  | [], xs, hx => by obtain rfl := Option.some.inj hx; exact ⟨[], ⟨rfl, by simp⟩, by simp⟩
  | .tmp t :: r, xs, hx => by
    simp only [resOf] at hx
    obtain ⟨x, h1, hx⟩ := Option.bind_eq_some_iff.1 hx
    obtain ⟨ys, h2, rfl⟩ := Option.map_eq_some_iff.1 hx
    obtain ⟨vs, g1, g2⟩ := run_resOf h h2
    have g0 : (rvRun a.tmps (.tmp t)).run P w = .ok (a.tmps.getD t undef) w := rfl
    refine ⟨a.tmps.getD t undef :: vs, ⟨by simp [g1.1], fun j y z hy hz => ?_⟩, by simp only [List.mapM_cons, Sem.run_bind, g0, Result.andThen, g2]; rfl⟩
    cases j with
    | zero => simp only [List.getElem?_cons_zero, Option.some.injEq] at hy hz; subst hy; subst hz; exact (h.env t x h1).2
    | succ j => exact g1.2 j y z (by simpa using hy) (by simpa using hz)
  | .cell t ty :: r, xs, hx => by
    simp only [resOf] at hx
    obtain ⟨x, h1, hx⟩ := Option.bind_eq_some_iff.1 hx
    obtain ⟨ys, h2, rfl⟩ := Option.map_eq_some_iff.1 hx
    obtain ⟨p, h3, h4⟩ := Option.bind_eq_some_iff.1 h1
    obtain ⟨vs, g1, g2⟩ := run_resOf h h2
    obtain ⟨u, g3, g4⟩ := evLoad_ok (P := P) h.rs h4 (h.env t p h3).2
    obtain ⟨ad, had⟩ : ∃ ad, a.tmps.getD t undef = .pointer (some ad) := by
      have := (h.env t p h3).2
      unfold evLoad at h4
      split at h4
      · obtain ⟨q, hq, _⟩ := Option.bind_eq_some_iff.1 h4
        obtain ⟨ad, had, _⟩ := ptr_ok h.rs (cs := q.1) (off := q.2) hq this
        exact ⟨ad, had⟩
      · cases h4
    rw [had] at g3
    have g0 : (rvRun a.tmps (.cell t ty)).run P w = .ok u w := by
      show (do loadVar ty (← asAddr (a.tmps.getD t undef)) : Go.Sem Value).run P w = _
      rw [had]
      simpa [Instr.loadAt, Instr.sureAddr, asAddr] using g3
    refine ⟨u :: vs, ⟨by simp [g1.1], fun j y z hy hz => ?_⟩, by simp only [List.mapM_cons, Sem.run_bind, g0, Result.andThen, g2]; rfl⟩
    cases j with
    | zero => simp only [List.getElem?_cons_zero, Option.some.injEq] at hy hz; subst hy; subst hz; exact g4
    | succ j => exact g1.2 j y z (by simpa using hy) (by simpa using hz)


/-- Behind a function's code. -/
def RetK (P : Program) (l : List ResultVar) (σ1 : Sto) (r : TV) : Exit → St → Prop := fun e s => (e = .normal ∨ e = .ret) ∧ ∃ ks, retOf P (s.frzAll ks) l = some r ∧ ∀ k o, get σ1 k = some o → get (s.frzAll ks).σ k = some o
theorem FnS.of {g : FuncId} {fn : Func} {c : Code} {args : List TV} {σ0 σ1 : Sto} {r : TV} (hf : P.funcs[g]? = some fn) (hb : fn.body = some c) (hN : args.length ≤ fn.ntmps) (hodd : ∀ k, (get σ0 k).isSome = true → k % 2 = 1)
    (h : Sm P c ⟨fn.ntmps, argE 0 args, σ0⟩ (RetK P fn.results.toList σ1 r)) : FnS P g σ0 args σ1 r := by
  intro w ω κ vs hS hω hvs
  refine calls_of_wp hf hb ?_
  have hsz : (vs.toArray ++ Array.replicate (fn.ntmps - vs.toArray.size) undef).size = fn.ntmps := by have := hvs.1; simp; omega
  have hrel : Rel ⟨w, ω, κ, σ0⟩ ω κ ⟨fn.ntmps, argE 0 args, σ0⟩ { tmps := vs.toArray ++ Array.replicate (fn.ntmps - vs.toArray.size) undef, defers := [] } w := by
    refine ⟨Turn.refl _ _, fun k _ => KeyOk.refl _ _ _, hodd, rfl, hsz, fun t x hx => ?_, hS⟩
    obtain ⟨_, h1⟩ := argE_get args 0 t x hx
    simp only [Nat.sub_zero] at h1
    obtain ⟨v, hv, hr⟩ := hvs.get h1
    have hlt := (List.getElem?_eq_some_iff.1 hv).1
    refine ⟨by rw [hsz]; have := hvs.1; omega, ?_⟩
    have : (vs.toArray ++ Array.replicate (fn.ntmps - vs.toArray.size) undef).getD t undef = v := by
      rw [Array.getD_eq_getD_getElem?, Array.getElem?_append_left (by simpa using hlt)]
      simp [hv]
    rw [this]; exact hr
  refine wp_mono (h _ _ _ ⟨ω, κ, hrel⟩) fun e a' w' ⟨s', ⟨he, ks, hret, hsub⟩, ω1, κ', hr1⟩ => ?_
  obtain ⟨ω', hr⟩ := hr1.frzAll ks
  generalize s'.frzAll ks = s2 at hret hsub hr
  obtain ⟨xs, hxs, hret⟩ := Option.bind_eq_some_iff.1 hret
  obtain ⟨us, g1, g2⟩ := run_resOf hr hxs
  have hrw := hr.weak (s' := ⟨s2.N, s2.E, σ1⟩) ⟨rfl, fun _ _ h => h, hsub⟩
  have hk1 : ∀ k, KeyOk κ' s2.σ κ' σ1 k := fun k => ⟨fun _ => rfl, fun o m hg hm => ⟨o, m, hsub _ _ hg, hm, Nat.le_refl _, fun _ => rfl⟩⟩
  have g3 : All2 (RT w' ω' κ' σ1) xs us := g1.imp fun x y _ hxy => hxy.step ⟨fun b hb => ⟨hb, rfl⟩, fun k _ => hk1 k, fun k _ o m hg hm => ⟨⟨o, m, hsub _ _ hg, hm⟩, rfl, fun _ _ _ _ _ => rfl⟩⟩
  have hmap : (fn.results.mapM (rvRun a'.tmps)).run P w' = .ok us.toArray w' := by
    rw [Array.mapM_eq_mapM_toList]
    show (List.toArray <$> List.mapM (rvRun a'.tmps) fn.results.toList).run P w' = _
    rw [map_eq_pure_bind]
    simp only [Sem.run_bind, g2, Result.andThen]
    rfl
  have hfin : ∃ v, (results fn a'.tmps).run P w' = .ok v w' ∧ RT w' ω' κ' σ1 r v := by
    rw [results_eq]
    simp only [Sem.run_bind, hmap, Result.andThen]
    have hl := g3.1
    split at hret
    · rename_i x
      obtain rfl := Option.some.inj hret
      match us, hl, g3 with
      | [u], _, g3 => exact ⟨u, by simp, g3.2 0 _ _ rfl rfl⟩
      | [], hl, _ => simp at hl
      | _ :: _ :: _, hl, _ => simp at hl
    · rename_i hne
      split at hret
      · rename_i hall
        obtain rfl := Option.some.inj hret
        have hne1 : us.length ≠ 1 := fun e => by
          rw [← hl] at e
          match xs, e with
          | [x], _ => exact hne x rfl
        refine ⟨.tuple us.toArray, ?_, us, rfl, g3.1, fun j x y hx hy => ?_⟩
        · have : ¬ us.toArray.size = 1 := by simpa using hne1
          simp [hne1]
        · have h1 := g3.2 j x y hx hy
          have h2 := List.all_eq_true.1 hall x (List.mem_of_getElem? hx)
          cases x with
          | c x => exact h1
          | ag cs => exact h1
          | tp ts => cases h2
      · cases hret
  obtain ⟨v, hv, hrv⟩ := hfin
  have hpost : ∃ v0 ω' κ', Ending.returned v = Ending.returned v0 ∧ Turn w ω w' ω' ∧ RS w' ω' κ' σ1 ∧ RT w' ω' κ' σ1 r v0 ∧ ∀ k, (get σ0 k).isSome = true → KeyOk κ σ0 κ' σ1 k := ⟨v, ω', κ', rfl, hrw.turn, hrw.rs, hrv, hrw.keys⟩
  rcases he with rfl | rfl
  · exact ⟨hr.defers, v, hv, hpost⟩
  · exact ⟨hr.defers, v, hv, hpost⟩

/-! Calls. -/
theorem ArgsOk.val (hS : RS w ω κ σ) {σ0 σa : Sto} {l : Lb} (hsub : ∀ k o, get σ0 k = some o → get σ k = some o) (hl : l = .im ∨ l = .no) (ha : ∀ k o, get σa k = some o → get σ k = some o ∧ (get σ0 k).isSome = false ∧ l = .im) : ∀ {xs ys : List TV} {vs : List Value}, ArgsOk σa xs ys → All2 (RT w ω κ σ) xs vs → All2 (RT w (seenL ω σ0 l) κ σ0) ys vs
  | [], [], vs, _, hv => ⟨hv.1, by simp⟩
  | [], _ :: _, _, h, _ => h.elim
  | _ :: _, [], _, h, _ => h.elim
  | x :: xs, y :: ys, [], _, hv => by simp [All2] at hv
  | x :: xs, y :: ys, v :: vs, h, hv => by
    refine .cons ?_ (ArgsOk.val hS hsub hl ha h.2 hv.tail)
    have hx := hv.head
    obtain ⟨_, _, h3⟩ := seen_ok hS hl hsub
    rcases h.1 with rfl | h1
    · exact h3 _ _ hx
    · obtain ⟨hSa, _, h4⟩ := seen_ok (l := .no) hS (.inr rfl) fun k o hk => (ha k o hk).1
      have hi : ∀ b, allIm (seenL ω σa .no) b = .im → seenL ω σ0 l b = .im ∧ w.heap[b]? = w.heap[b]? := fun b hb => by
        refine ⟨?_, rfl⟩
        cases hw : ω b with
        | im => exact seen_im hw
        | no => unfold allIm at hb; rw [seen_no hw] at hb; cases hb
        | ob k =>
          cases hk : (get σa k).isSome with
          | false => unfold allIm at hb; rw [seen_out hw hk] at hb; cases hb
          | true =>
            obtain ⟨o, ho⟩ := Option.isSome_iff_exists.1 hk
            obtain ⟨_, h5, h6⟩ := ha k o ho
            rw [seen_out hw h5, h6]
      have hx' := h4 x v hx
      cases x with
      | tp ts => exact h1.elim
      | c x =>
        obtain ⟨z, hz, rfl⟩ := h1
        exact .im _ _ ((toIV_ok hSa hx' hz).kept hi)
      | ag cs =>
        obtain ⟨zs, hz, rfl⟩ := h1
        obtain ⟨us, rfl, g1, g2⟩ := hx'
        have := toIVL_ok hSa hz g1
        refine ⟨us, rfl, ⟨by simp [this.1], fun j p q hp hq => ?_⟩, g2⟩
        rw [List.getElem?_map] at hp
        obtain ⟨z, hz', rfl⟩ := Option.map_eq_some_iff.1 hp
        exact .im _ _ ((this.2 j z q hz' hq).kept hi)
/-- **A call by its contract.** 'σa': the objects that may be read as trees meanwhile. -/
theorem CallG.by {g d : Nat} {xs ys : List TV} {σ0 σ1 σa : Sto} {r : TV} {K : St → Prop} {t : Tg K} {l : Lb} (hf : FnS P g σ0 ys σ1 r) (hsub : ∀ k o, get σ0 k = some o → get s.σ k = some o) (hl : l = .im ∧ pureT r = true ∧ pureS σ1 = true ∨ l = .no)
    (hσa : ∀ k o, get σa k = some o → get s.σ k = some o ∧ (get σ0 k).isSome = false ∧ l = .im) (ha : ArgsOk σa xs ys) (hki : keysIn σ0 σ1 r.keys = true) (hks : keysInS σ0 σ1 σ1 = true) (hfr : freshB s σ0 σ1 = true) (hnn : nnAll s σ0 = true) (hd : d < s.N)
    (hK : K ⟨s.N, (d, r) :: s.E, backS s.σ σ0 σ1⟩) : CallG P s g xs d K t := by
  intro β ω κ a w vs hr hv
  have hl' : l = .im ∨ l = .no := hl.imp (fun h => h.1) id
  obtain ⟨h1, h2, _⟩ := seen_ok hr.rs hl' hsub
  refine (hf w _ κ vs h1 h2 (ArgsOk.val hr.rs hsub hl' hσa ha hv)).mono fun e w' ⟨v, ωc, κc, he, ht, hS, hrv, hk⟩ => ?_
  exact ⟨v, he, _, hK, hr.back hsub hl ht hS hrv hk hki hks hfr hnn hd⟩
theorem backS_nil (σ : Sto) : backS σ [] [] = σ := rfl
def argT (σ : Sto) : TV → Option TV
  | .c x => (toIV σ x).map fun y => .c (.im y)
  | .ag cs => (toIVL σ cs).map fun ys => .ag (ys.map .im)
  | .tp _ => none
def argTs (σ : Sto) : List TV → Option (List TV)
  | [] => some []
  | x :: r => (argT σ x).bind fun y => (argTs σ r).map (y :: ·)
theorem argTs_ok : ∀ {xs ys : List TV}, argTs σ xs = some ys → ArgsOk σ xs ys
  | [], ys, h => by obtain rfl := Option.some.inj h; trivial
  | x :: r, ys, h => by
    simp only [argTs] at h
    obtain ⟨y, hy, h⟩ := Option.bind_eq_some_iff.1 h
    obtain ⟨zs, hz, rfl⟩ := Option.map_eq_some_iff.1 h
    refine ⟨.inr ?_, argTs_ok hz⟩
    cases x with
    | c x => obtain ⟨z, hz, rfl⟩ := Option.map_eq_some_iff.1 hy; exact ⟨z, hz, rfl⟩
    | ag cs => obtain ⟨z, hz, rfl⟩ := Option.map_eq_some_iff.1 hy; exact ⟨z, hz, rfl⟩
    | tp ts => cases hy
/-- A call that changes nothing that was there and returns scalars, or new objects alone. -/
theorem CallG.pure {g d : Nat} {xs ys : List TV} {σ1 : Sto} {r : TV} {K : St → Prop} {t : Tg K} (hf : FnS P g [] ys σ1 r) (ha : argTs s.σ xs = some ys) (hp : pureT r = true ∧ pureS σ1 = true) (hki : keysIn [] σ1 r.keys = true ∧ keysInS [] σ1 σ1 = true) (hfr : freshB s [] σ1 = true) (hd : d < s.N)
    (hK : K ⟨s.N, (d, r) :: s.E, σ1 ++ s.σ⟩) : CallG P s g xs d K t :=
  CallG.by (σ0 := []) (l := .im) hf (fun k o h => by rw [get_nil] at h; cases h) (.inl ⟨rfl, hp.1, hp.2⟩) (fun k o h => ⟨h, rfl, rfl⟩) (argTs_ok ha) hki.1 hki.2 hfr rfl hd hK
/-- A call that changes nothing that was there; what is handed over is all's. -/
theorem CallG.val {g d : Nat} {xs ys : List TV} {σ1 : Sto} {r : TV} {K : St → Prop} {t : Tg K} (hf : FnS P g [] ys σ1 r) (ha : argTs [] xs = some ys) (hki : keysIn [] σ1 r.keys = true ∧ keysInS [] σ1 σ1 = true) (hfr : freshB s [] σ1 = true) (hd : d < s.N)
    (hK : K ⟨s.N, (d, r) :: s.E, σ1 ++ s.σ⟩) : CallG P s g xs d K t :=
  CallG.by (σ0 := []) (σa := []) (l := .no) hf (fun k o h => by rw [get_nil] at h; cases h) (.inr rfl) (fun k o h => by rw [get_nil] at h; cases h) (argTs_ok ha) hki.1 hki.2 hfr rfl hd hK
/-- What is handed over is made all's first. -/
theorem CallG.frz1 {g d : Nat} {xs : List TV} {K : St → Prop} {t : Tg K} (k : Nat) {o : Ob} (hk : get s.σ k = some o) (h : CallG P (s.frz k) g (xs.map (TV.frz k o)) d K t) : CallG P s g xs d K t := by
  intro β ω κ a w vs hr hv
  have e : s.frz k = ⟨s.N, frzE k o s.E, frzS k o s.σ⟩ := by unfold St.frz; rw [hk]
  have h1 : ∃ ω', Rel β ω' κ (s.frz k) a w ∧ ∀ x v, RT w ω κ s.σ x v → RT w ω' κ (s.frz k).σ (TV.frz k o x) v := by
    obtain ⟨ω', hr'⟩ := hr.frz k
    refine ⟨imL ω k, ?_, fun x v hx => by rw [e]; exact hx.frz hr.rs hk⟩
    have hob := hr.rs.ob k o hk
    rw [e]
    refine ⟨hr.turn.trans ⟨rfl, rfl, rfl, Nat.le_refl _, fun _ _ _ => rfl, fun b hb => imL_im ω k b hb, fun b _ hb => by unfold imL; rw [if_neg (by rw [hb]; simp)]; exact hb⟩, fun j hj => (hr.keys j hj).trans ⟨fun _ => rfl, fun o' m' ho hm => ?_⟩, hr.odd, hr.defers, hr.size, fun t x hx => ?_, ⟨fun j o' ho => ?_, fun b hb => hr.rs.dom b fun hb' => hb (by unfold imL; rw [if_neg (by rw [hb']; simp)]; exact hb')⟩⟩
    · rw [get_frzS] at ho
      split at ho
      · cases ho
      · obtain ⟨p, hp, rfl⟩ := Option.map_eq_some_iff.1 ho
        rw [frzO_len] at hm
        exact ⟨p, m', hp, hm, Nat.le_refl _, fun _ => rfl⟩
    · simp only at hx
      rw [get_frzE] at hx
      obtain ⟨y, hy, rfl⟩ := Option.map_eq_some_iff.1 hx
      exact ⟨(hr.env t y hy).1, (hr.env t y hy).2.frz hr.rs hk⟩
    · simp only at ho
      rw [get_frzS] at ho
      split at ho
      · cases ho
      · rename_i hjk
        obtain ⟨p, hp, rfl⟩ := Option.map_eq_some_iff.1 ho
        have hob := hr.rs.ob j p hp
        cases p with
        | box t cs =>
          obtain ⟨b, vs, h1, h2, h3, h4, h5, h6⟩ := hob
          refine ⟨b, vs, h1, imL_j ω hjk h2, h3, ⟨by simp [h4.1], fun i y z hy hz => ?_⟩, h5, anyNL_of fun x hx => ?_⟩
          · rw [List.getElem?_map] at hy
            obtain ⟨y', hy', rfl⟩ := Option.map_eq_some_iff.1 hy
            exact RC.frz hr.rs hk (h4.2 i y' z hy' hz)
          · obtain ⟨y, hy, rfl⟩ := List.mem_map.1 hx
            exact frz_anyN k o y (anyNL_mem h6 y hy)
        | vec t e n cs own => exact ObOk.step (o := .vec t e n cs own) hob rfl (fun b hb => ⟨imL_j ω hjk hb, rfl⟩) (fun b hb => ⟨imL_im ω k b hb, rfl⟩) fun _ _ h => by cases h
        | row n cs => exact ObOk.step (o := .row n cs) hob rfl (fun b hb => ⟨imL_j ω hjk hb, rfl⟩) (fun b hb => ⟨imL_im ω k b hb, rfl⟩) fun _ _ h => by cases h
  obtain ⟨ω', h2, h3⟩ := h1
  refine h β ω' κ a w vs h2 ⟨by simp [hv.1], fun j x v hx hv' => ?_⟩
  rw [List.getElem?_map] at hx
  obtain ⟨y, hy, rfl⟩ := Option.map_eq_some_iff.1 hx
  exact h3 y v (hv.2 j y v hy hv')
end
end Go.VC
