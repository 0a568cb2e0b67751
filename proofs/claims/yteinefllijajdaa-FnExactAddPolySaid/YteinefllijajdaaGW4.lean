/- Drawn regions with appends that copy and one allocation: no statement of a program. -/
import Derived.Test.YteinefllijajdaaGW3
import Derived.Sort.Grow
import Derived.Lib.LaidTab
import Derived.Deep.Draws
import Derived.Laws.CopyRow
import Derived.Shelf.RegionOpenPlain
import Derived.WalkKit
import Derived.Lib.Walk
set_option linter.unusedSimpArgs false
set_option linter.unusedVariables false
namespace Go.VC
open Go Go.RowKit
section
variable {β : Base} {w w' : World} {ω ω' : Lab} {κ κ' : Nat → Value} {σ σ' : Sto} {E E' : Env} {a : Act} {s : St} {P : Program}
/-- An operation that turns nothing, or copies, comes to r. -/
def qvX (P : Program) (E : Env) (σ : Sto) (o : Oper) (r : TV) : Prop := qv P E σ o r ∨ ∃ c, o.op = .call c ∧ c.callee = .builtin .append ∧ apQ P E σ c (· = r) .mk
theorem qvX_congr {o : Oper} {r : TV} (h : ∀ x ∈ o.op.operands.toList, ∀ t, x = .tmp t → get E t = get E' t) (hq : qvX P E σ o r) : qvX P E' σ o r := by
  rcases hq with hq | ⟨c, h1, h2, h3⟩
  · exact .inl (qv_congr h hq)
  · exact .inr ⟨c, h1, h2, apQ_congr (fun x hx => h x (by simp [h1, Op.operands, Call.operands]; exact .inr (by simpa using hx))) h3⟩
theorem FnQ.mono (hs : SubS σ σ') {g : FuncId} {ys : List TV} {r : TV} (h : FnQ P σ g ys r) : FnQ P σ' g ys r := by
  rcases h with h | ⟨k, b, x, u, h1, h2, h3⟩
  · exact .inl h
  · exact .inr ⟨k, b, x, u, hs _ _ h1, h2, h3⟩
theorem qvX_mono (hs : SubS σ σ') {o : Oper} {r : TV} (hq : qvX P E σ o r) : qvX P E σ' o r := by
  rcases hq with hq | ⟨c, h1, h2, h3⟩
  · left
    unfold qv at hq ⊢
    split at hq
    · rename_i c hop
      split at hq
      · obtain ⟨x, g, caps, xs, ys, a1, a2, a3, a4, a5, a6, a7⟩ := hq
        refine ⟨x, g, caps, xs, ys, a1, a2, a3, a4, FnQ.mono hs a5, a6, ?_⟩
        rcases a7 with ⟨a7, a8⟩ | a7
        · exact .inl ⟨argTs_mono hs a7, a8⟩
        · exact .inr a7
      · exact ev1_mono hs hq
    · exact hq
    · exact ev1_mono hs hq
  · exact .inr ⟨c, h1, h2, apQ_mono hs h3⟩
theorem qvX_ok {o : Oper} {r : TV} {d : Nat} {next : Act → World → Prop} {Q : Exit → Act → World → Prop} (h : qvX P s.E s.σ o r) (hd : o.dst = some d) (hdN : d < s.N) (hr : RelE β s a w)
    (hn : ∀ a' w', RelE β (s.put d r) a' w' → next a' w') : o.wp P a w next Q := by
  rcases h with h | ⟨c, h1, h2, h3⟩
  · exact qv_ok h hd hdN hr hn
  · exact apQ_ok h1 h2 h3 hd hdN hr hn
/-- The operations in the text's order; each turns nothing. -/
def qX (P : Program) (ops : Array Oper) : List Oper → St → (St → Prop) → Prop
  | [], s, K => K s
  | o :: r, s, K => match o.dst with
    | some d => d < s.N ∧ gdP (gdOf ops s.E o) (match o.op with
        | .call c => match c.callee with
          | .value f => match (opd s.E f).bind calleeOf, opsT s.E c.args.toList with
            | some (g, caps), some xs => fnOk P g = true ∧ CallQ P s.σ g (xs ++ caps) (fun v => qX P ops r (s.put d v) K) .mk
            | _, _ => False
          | .builtin .append => apQ P s.E s.σ c (fun v => qX P ops r (s.put d v) K) .mk
          | _ => onS (ev1 P s.E s.σ o.op) (fun v => qX P ops r (s.put d v) K) .mk
        | .buildSlice t n ps => onS (bsV P s.E t n ps) (fun ys => qX P ops r (s.put d (.c (.ik n n ys))) K) .mk
        | op => onS (ev1 P s.E s.σ op) (fun v => qX P ops r (s.put d v) K) .mk)
      (qX P ops r (s.put d (.tp [])) K) .mk .mk
    | none => False
/-- An operation agrees with a frame in which its result stands already. -/
def SolX (P : Program) (ops : Array Oper) (σ : Sto) (N : Nat) (F : Env) (o : Oper) : Prop :=
  ∃ d r, o.dst = some d ∧ d < N ∧ get F d = some r ∧ ((gdOf ops F o = some true ∧ qvX P F σ o r) ∨ (gdOf ops F o = some false ∧ r = .tp []))
theorem SolX.congr {ops : Array Oper} {N : Nat} {o : Oper} (h : SolX P ops σ N E o) (hl : ∀ t ∈ o.looksAt ops, get E t = get E' t) (hd : ∀ d, o.dst = some d → get E d = get E' d) : SolX P ops σ N E' o := by
  obtain ⟨d, r, h1, h2, h3, h4⟩ := h
  refine ⟨d, r, h1, h2, by rw [← hd d h1]; exact h3, ?_⟩
  rw [← gdOf_congr hl]
  rcases h4 with ⟨h4, h5⟩ | h4
  · exact .inl ⟨h4, qvX_congr (looks_opnd hl) h5⟩
  · exact .inr h4

theorem qX_sol {ops : Array Oper} : ∀ {l : List Oper} {s : St} {K : St → Prop}, qX P ops l s K → lateB ops l = true →
    ∃ F, K ⟨s.N, F, s.σ⟩ ∧ (∀ t, (∀ o ∈ l, o.dst ≠ some t) → get F t = get s.E t) ∧ (∀ k, noE k F = true → noE k s.E = true) ∧ ∀ o ∈ l, SolX P ops s.σ s.N F o
  | [], s, K, h, _ => ⟨s.E, h, fun _ _ => rfl, fun _ h => h, by simp⟩
  | o :: r, s, K, h, hl => by
    simp only [lateB, Bool.and_eq_true] at hl
    obtain ⟨⟨hl1, hl2⟩, hl3⟩ := hl
    unfold qX gdP onS at h
    split at h
    · rename_i d hd
      obtain ⟨hdN, h⟩ := h
      -- in each case: a value v with which the rest goes on
      have main : ∀ v, qX P ops r (s.put d v) K → ((gdOf ops s.E o = some true ∧ qvX P s.E s.σ o v) ∨ (gdOf ops s.E o = some false ∧ v = .tp [])) →
          ∃ F, K ⟨s.N, F, s.σ⟩ ∧ (∀ t, (∀ p ∈ o :: r, p.dst ≠ some t) → get F t = get s.E t) ∧ (∀ k, noE k F = true → noE k s.E = true) ∧ ∀ p ∈ o :: r, SolX P ops s.σ s.N F p := by
        intro v hq hv
        obtain ⟨F, h1, h2, h4, h3⟩ := qX_sol hq hl3
        have hFd : get F d = some v := by
          rw [h2 d fun p hp => ?_]
          · simp [St.put, get_cons]
          · have := List.all_eq_true.1 hl2 p hp
            rw [hd] at this
            simpa using this
        have hno : ∀ t ∈ o.looksAt ops, ∀ p ∈ o :: r, p.dst ≠ some t := fun t ht p hp he => by
          have := List.all_eq_true.1 hl1 p hp
          rw [he] at this
          simp at this
          exact this ht
        refine ⟨F, h1, fun t ht => ?_, fun k hk => ?_, fun p hp => ?_⟩
        · rw [h2 t fun p hp => ht p (by simp [hp])]
          have : t ≠ d := fun e => ht o (by simp) (by rw [hd, e])
          simp [St.put, get_cons, this]
        · have := h4 k hk
          simp only [St.put, noE, Bool.and_eq_true] at this
          exact this.2
        · rcases List.mem_cons.1 hp with rfl | hp
          · have hag : ∀ t ∈ p.looksAt ops, get s.E t = get F t := fun t ht => by
              rw [h2 t fun q hq => hno t ht q (by simp [hq])]
              have : t ≠ d := fun e => hno t ht p (by simp) (by rw [hd, e])
              simp [St.put, get_cons, this]
            refine ⟨d, v, hd, hdN, hFd, ?_⟩
            rw [← gdOf_congr hag]
            rcases hv with ⟨g1, g2⟩ | g
            · exact .inl ⟨g1, qvX_congr (looks_opnd hag) g2⟩
            · exact .inr g
          · exact h3 p hp
      split at h
      · rename_i hg
        split at h
        · rename_i c hop
          split at h
          · rename_i f hcal
            split at h
            · rename_i g caps xs hf hxs
              obtain ⟨hok, ys, v, g1, g2, g3, g4⟩ := h
              obtain ⟨x, hx, hgx⟩ := Option.bind_eq_some_iff.1 hf
              refine main v g4 (.inl ⟨hg, ?_⟩)
              left
              unfold qv
              simp only [hop, hcal]
              exact ⟨x, g, caps, xs, ys, hx, hgx, hok, hxs, g1, g2, g3⟩
            · exact h.elim
          · rename_i hcal
            obtain ⟨v, h1, h2⟩ := apQ_val h
            exact main v h1 (.inl ⟨hg, .inr ⟨c, hop, hcal, h2⟩⟩)
          · rename_i hne hne2
            split at h
            · rename_i v hv
              refine main v h (.inl ⟨hg, .inl ?_⟩)
              unfold qv
              simp only [hop]
              cases hcal : c.callee with
              | value f => exact absurd hcal (hne f)
              | _ => rw [hop] at hv; exact hv
            · exact h.elim
        · rename_i t n ps hop
          split at h
          · rename_i ys hys
            refine main _ h (.inl ⟨hg, .inl ?_⟩)
            unfold qv
            simp only [hop]
            exact ⟨ys, hys, rfl⟩
          · exact h.elim
        · rename_i hn1 hn2
          split at h
          · rename_i v hv
            refine main v h (.inl ⟨hg, .inl ?_⟩)
            unfold qv
            split
            · rename_i c hc; exact absurd hc (hn1 c)
            · rename_i t n ps hc; exact absurd hc (hn2 t n ps)
            · exact hv
          · exact h.elim
      · rename_i hg; exact main _ h (.inr ⟨hg, rfl⟩)
      · exact h.elim
    · exact h.elim


/-- The objects at a time: with the new one, if it stands. -/
def curS (n m : Nat) (k : Nat) (b : Ob) (σ : Sto) (listed : Array Bool) : Sto := if m < n ∧ listed.getD m false = true then (k, b) :: σ else σ
theorem head_anyX {ops : Array Oper} {n m d0 : Nat} {t0 : TypeId} {zs : List Value} {Q : Exit → Act → World → Prop} {K : St → Prop} {s : St} {G : Env} (hw : waitB ops n = true) (hc : Region.chainB .any ops n = true) (hs : n < ops.size → Region.sinkB .any ops n = true) (hnsz : n ≤ ops.size)
    (hm : m < n → ∃ o, ops[m]? = some o ∧ o.op = .alloc t0 ∧ o.dst = some d0 ∧ o.guard = none) (hz : m < n → wpO.zvOf P t0 = some zs ∧ d0 < s.N ∧ noS (2 * d0) s.σ = true ∧ (get s.σ (2 * d0)).isSome = false ∧ get G d0 = some (.c (.rf (2 * d0) 0)))
    (hfr : m < n → ∀ i o d r, i < n → i ≠ m → ops[i]? = some o → o.dst = some d → get G d = some r → r.has (2 * d0) = false)
    (hout : ∀ t, (∀ o ∈ ops.toList.take n, o.dst ≠ some t) → get G t = get s.E t) (hsol : ∀ i o, i < n → i ≠ m → ops[i]? = some o → SolX P ops s.σ s.N G o)
    (hop : opsW P ops (ops.toList.drop n) ⟨s.N, G, if m < n then (2 * d0, .box t0 (zs.map ofC)) :: s.σ else s.σ⟩ K) (hn : ∀ s' a' w', K s' → RelE β s' a' w' → Q .normal a' w') :
    ∀ (fuel : Nat) (listed : Array Bool) (E' : Env) (a : Act) (w : World), HeadInv .any ops n listed → (((List.range ops.size).filter fun j => !listed.getD j true).length ≤ fuel) → Mix ops n listed s.E G E' →
      (m < n → listed.getD m false = false → noE (2 * d0) E' = true) → RelE β ⟨s.N, E', curS n m (2 * d0) (.box t0 (zs.map ofC)) s.σ listed⟩ a w → wpAny P .any ops Q fuel listed a w := by
  have hmem : ∀ {i : Nat} {o : Oper}, i < n → ops[i]? = some o → o ∈ ops.toList.take n := fun {i o} hi ho => by
    refine List.mem_of_getElem? (i := i) ?_
    rw [List.getElem?_take_of_lt hi]; simpa using ho
  -- when all n stand
  have hfin : ∀ (listed : Array Bool) (E' : Env), (∀ j, j < n → listed.getD j true = true) → listed.size = ops.size → Mix ops n listed s.E G E' →
      Weak ⟨s.N, E', curS n m (2 * d0) (.box t0 (zs.map ofC)) s.σ listed⟩ ⟨s.N, G, if m < n then (2 * d0, .box t0 (zs.map ofC)) :: s.σ else s.σ⟩ := fun listed E' hall hsz hmix => by
    refine ⟨rfl, fun t x hx => ?_, fun k o hk => ?_⟩
    · by_cases hwr : Wrote ops n listed t
      · rw [(hmix t).1 hwr]; exact hx
      · rw [(hmix t).2 hwr, ← hout t fun o ho he => hwr ?_]
        · exact hx
        · obtain ⟨i, hi⟩ := List.getElem?_of_mem ho
          have hin : i < n := by have := (List.getElem?_eq_some_iff.1 hi).1; simp at this; omega
          rw [List.getElem?_take_of_lt hin] at hi
          refine ⟨i, o, hin, ?_, by simpa using hi, he⟩
          have : i < listed.size := by rw [hsz]; omega
          have h2 := hall i hin
          simpa [this] using h2
    · by_cases hmn : m < n
      · have h2 := hall m hmn
        have : m < listed.size := by rw [hsz]; omega
        have h3 : listed.getD m false = true := by simpa [this] using h2
        simp only [curS, hmn, h3, and_self, if_true] at hk ⊢
        exact hk
      · simp only [curS, hmn, false_and, if_false] at hk ⊢
        exact hk
  intro fuel
  induction fuel with
  | zero =>
    intro listed E' a w inv hf hmix hfe hr
    have hall : ∀ j, j < ops.size → listed.getD j true = true := fun j hj => by
      cases hl : listed.getD j true with
      | true => rfl
      | false =>
        have : j ∈ (List.range ops.size).filter fun j => !listed.getD j true := List.mem_filter.2 ⟨List.mem_range.2 hj, by simp [hl]⟩
        have := List.length_pos_of_mem this
        omega
    have hne : n = ops.size := by
      rcases Nat.lt_or_ge n ops.size with h | h
      · have := inv.tail n (Nat.le_refl _) h; rw [hall n h] at this; cases this
      · omega
    exact tail_any (n := n) hw hc hn 0 ops.size listed _ a w (by omega) (Nat.le_refl _) inv.size (fun j hj => by rw [hall j hj]; simp [hj]) (by omega) (by rw [← hne]; exact hop) (hr.weak (hfin listed E' (fun j hj => hall j (by omega)) inv.size hmix))
  | succ fuel ih =>
    intro listed E' a w inv hf hmix hfe hr
    by_cases hdone : ∀ j, j < n → listed.getD j true = true
    · have hl : ∀ j, j < ops.size → listed.getD j true = decide (j < n) := fun j hj => by
        by_cases hjn : j < n
        · rw [hdone j hjn]; simp [hjn]
        · rw [inv.tail j (by omega) hj]; simp [hjn]
      have hcnt : ops.size - n ≤ fuel + 1 := by
        refine Nat.le_trans ?_ hf
        have hsub : ((List.range ops.size).filter fun j => !listed.getD j true) = (List.range ops.size).filter fun j => decide (n ≤ j) := by
          apply List.filter_congr
          intro j hj
          rw [hl j (List.mem_range.1 hj)]
          by_cases hjn : j < n
          · simp [hjn]
          · simp [hjn]; omega
        rw [hsub]
        have : ∀ N, N - n ≤ ((List.range N).filter fun j => decide (n ≤ j)).length := by
          intro N
          induction N with
          | zero => simp
          | succ N ihN =>
            rw [List.range_succ, List.filter_append, List.length_append]
            by_cases h : n ≤ N
            · simp [h]; omega
            · omega
        exact this _
      exact tail_any (n := n) hw hc hn (fuel + 1) n listed _ a w (Nat.le_refl _) hnsz inv.size hl hcnt hop (hr.weak (hfin listed E' hdone inv.size hmix))
    · obtain ⟨j0, hj0, hun0⟩ : ∃ j, j < n ∧ listed.getD j true = false := by
        apply Classical.byContradiction
        intro hno
        refine hdone fun j hj => ?_
        cases hl : listed.getD j true with
        | true => rfl
        | false => exact absurd ⟨j, hj, hl⟩ hno
      have hpre : ∀ i ∈ Region.ready .any ops listed, i < n := fun i hi => by
        rcases Nat.lt_or_ge i n with h | h
        · exact h
        · have hil : i < ops.size := by obtain ⟨_, o, ho, _⟩ := mem_ready.1 hi; exact (Array.getElem?_eq_some_iff.1 ho).1
          exact absurd hi (tail_waits (hs (by omega)) hc (by omega) inv _ j0 rfl hj0 hun0 i h)
      obtain ⟨j1, hj1, _⟩ := ready_least hw inv.size j0 (by omega) hun0
      refine ⟨fun h => (by rw [h] at hj1; cases hj1), fun i hi => ?_⟩
      have hin := hpre i hi
      obtain ⟨hui, o, ho, hall⟩ := mem_ready.1 hi
      have hil : i < ops.size := (Array.getElem?_eq_some_iff.1 ho).1
      have hcount : ((List.range ops.size).filter fun j => !(listed.setIfInBounds i true).getD j true).length ≤ fuel := by
        have hlt : ((List.range ops.size).filter fun j => !(listed.setIfInBounds i true).getD j true).length < ((List.range ops.size).filter fun j => !listed.getD j true).length := by
          have e : ((List.range ops.size).filter fun j => !(listed.setIfInBounds i true).getD j true) = ((List.range ops.size).filter fun j => !listed.getD j true).filter (fun j => j != i) := by
            rw [List.filter_filter]
            apply List.filter_congr
            intro j hj
            by_cases hij : i = j
            · subst hij; simp [inv.size, hil]
            · rw [getD_set_ne true hij]; simp [Ne.symm hij]
          rw [e]
          refine List.length_filter_lt_length_iff_exists.2 ⟨i, List.mem_filter.2 ⟨List.mem_range.2 hil, by simp [hui]⟩, by simp⟩
        omega
      have hset : (listed.setIfInBounds i true).getD i false = true := by simp [inv.size, hil]
      -- the frame with one result more
      have hmixN : ∀ d r, o.dst = some d → get G d = some r → Mix ops n (listed.setIfInBounds i true) s.E G ((d, r) :: E') := fun d r hd hGd t => by
        by_cases htd : t = d
        · subst htd
          exact ⟨fun _ => by rw [get_cons, if_pos rfl, hGd], fun h => absurd ⟨i, o, hin, hset, ho, hd⟩ h⟩
        · have hiff : Wrote ops n (listed.setIfInBounds i true) t ↔ Wrote ops n listed t := by
            constructor
            · rintro ⟨j, q, h1, h2, h3, h4⟩
              by_cases hij : i = j
              · subst hij
                have : q = o := Option.some.inj (h3.symm.trans ho)
                subst this
                rw [hd] at h4
                exact absurd (Option.some.inj h4).symm htd
              · exact ⟨j, q, h1, by rwa [getD_set_ne false hij] at h2, h3, h4⟩
            · rintro ⟨j, q, h1, h2, h3, h4⟩
              by_cases hij : i = j
              · subst hij; exact ⟨i, q, h1, hset, h3, h4⟩
              · exact ⟨j, q, h1, by rw [getD_set_ne false hij]; exact h2, h3, h4⟩
          rw [get_cons, if_neg htd, hiff]
          exact hmix t
      by_cases him : i = m
      · subst him
        obtain ⟨o', ho', hoa, hdst, hgu⟩ := hm hin
        have : o' = o := Option.some.inj (ho'.symm.trans ho)
        subst this
        obtain ⟨hzv, hd0, hnoS, hfree, hGd⟩ := hz hin
        have hu : listed.getD i false = false := getD_both hui
        have hcur : curS n i (2 * d0) (.box t0 (zs.map ofC)) s.σ listed = s.σ := by simp [curS, hu]
        rw [hcur] at hr
        have hgd : gdOf ops E' o' = some true := by simp [gdOf, hgu]
        obtain ⟨ω, κ, hr'⟩ := id hr
        unfold wpOp
        simp only [ho]
        rw [if_pos (gdOf_ok hr'.env hgd)]
        refine .inl (wpO_ok (s := ⟨s.N, E', s.σ⟩) (K := fun s' => s' = ⟨s.N, (d0, .c (.rf (2 * d0) 0)) :: E', (2 * d0, .box t0 (zs.map ofC)) :: s.σ⟩) ?_ hr fun s' a' w' hs' hr2 => ?_)
        · unfold wpO
          simp only [hoa, hdst, hzv]
          exact ⟨hd0, hfe hin hu, hnoS, trivial⟩
        · subst hs'
          refine ih _ _ a' w' (inv.set hi hin) hcount (hmixN d0 _ hdst hGd) (fun _ h => ?_) ?_
          · rw [hset] at h; cases h
          · simp only [curS, hset, hin, and_self, if_true]
            exact hr2
      · obtain ⟨d, r, hd, hdN, hGd, hsl⟩ := hsol i o hin him ho
        have hag : ∀ t ∈ o.looksAt ops, get G t = get E' t := fun t ht => by
          by_cases hwr : Wrote ops n listed t
          · exact ((hmix t).1 hwr).symm
          · rw [(hmix t).2 hwr, hout t fun q hq he => ?_]
            obtain ⟨j, hj⟩ := List.getElem?_of_mem hq
            have hjn : j < n := by have := (List.getElem?_eq_some_iff.1 hj).1; simp at this; omega
            rw [List.getElem?_take_of_lt hjn] at hj
            have hj' : ops[j]? = some q := by simpa using hj
            obtain ⟨e, he1, hb, hon⟩ := (waitB_spec hw ho).2 hin t ht j q hjn hj' he
            exact hwr ⟨j, q, hjn, by rw [← hon]; exact hall e he1 hb, hj', he⟩
        have hcur : curS n m (2 * d0) (.box t0 (zs.map ofC)) s.σ (listed.setIfInBounds i true) = curS n m (2 * d0) (.box t0 (zs.map ofC)) s.σ listed := by
          unfold curS; rw [getD_set_ne false him]
        have hsub : SubS s.σ (curS n m (2 * d0) (.box t0 (zs.map ofC)) s.σ listed) := fun k x hk => by
          unfold curS
          split
          · rename_i hmm
            rw [get_cons]
            split
            · rename_i e; have := (hz hmm.1).2.2.2.1; rw [← e, hk] at this; cases this
            · exact hk
          · exact hk
        have hnext : ∀ a' w', RelE β ((⟨s.N, E', curS n m (2 * d0) (.box t0 (zs.map ofC)) s.σ listed⟩ : St).put d r) a' w' → wpAny P .any ops Q fuel (listed.setIfInBounds i true) a' w' := fun a' w' hr' => by
          refine ih _ ((d, r) :: E') a' w' (inv.set hi hin) hcount (hmixN d r hd hGd) (fun h1 h2 => ?_) (by rw [hcur]; exact hr')
          rw [getD_set_ne false him] at h2
          simp only [noE, Bool.and_eq_true, Bool.not_eq_true']
          exact ⟨hfr h1 i o d r hin him ho hd hGd, hfe h1 h2⟩
        unfold wpOp
        simp only [ho]
        obtain ⟨ω, κ, hr'⟩ := id hr
        rcases hsl with ⟨hg, hq⟩ | ⟨hg, rfl⟩
        · rw [gdOf_congr hag] at hg
          rw [if_pos (gdOf_ok hr'.env hg)]
          exact .inl (qvX_ok (s := ⟨s.N, E', curS n m (2 * d0) (.box t0 (zs.map ofC)) s.σ listed⟩) (qvX_mono hsub (qvX_congr (looks_opnd hag) hq)) hd hdN hr hnext)
        · rw [gdOf_congr hag] at hg
          have hf' := gdOf_ok hr'.env hg
          rw [if_neg (by rw [hf']; simp), hd]
          exact hnext _ _ ⟨ω, κ, hr'.put hdN ⟨[], rfl, rfl, by simp⟩⟩

/-- The operations that may stand in any order, without the allocation; then what follows. -/
def quietL (ops : Array Oper) (n m : Nat) : List Oper := (ops.toList.take n).eraseIdx m
def restL (ops : Array Oper) (n m : Nat) : List Oper := (if m < n then (ops.toList.drop m).take 1 else []) ++ ops.toList.drop n
def allocB (ops : Array Oper) (n m d : Nat) : Bool := match ops[m]? with
  | some o => o.guard.isNone && (match o.op with | .alloc _ => true | _ => false) && o.dst == some d && (quietL ops n m).all fun p => p.dst != some d && !(p.looksAt ops).contains d
  | none => false
/-- What is asked of the form: n operations may stand in any order; the m-th allocates into d. -/
def drawXB (ops : Array Oper) (n m d : Nat) : Bool := waitB ops n && Region.chainB .any ops n && (decide (ops.size ≤ n) || Region.sinkB .any ops n) && decide (n ≤ ops.size) && lateB ops (quietL ops n m) && (decide (n ≤ m) || allocB ops n m d)
/-- **A region whose order is open: appends that copy and one allocation among its first operations.** -/
theorem Sm.drawX {id : Nat} {ops : Array Oper} {K : Exit → St → Prop} {l1 l2 : List Oper} (n m d : Nat) (hm : P.follows .mixedOrders = true) (hb : drawXB ops n m d = true) (hk : (get s.σ (2 * d)).isSome = false)
    (e1 : quietL ops n m = l1) (e2 : restL ops n m = l2) (h : qX P ops l1 s fun s' => opsW P ops l2 s' (K .normal)) : Sm P (.region id ops true) s K := fun β a w hr => by
  subst e1; subst e2
  simp only [drawXB, Bool.and_eq_true, Bool.or_eq_true, decide_eq_true_eq] at hb
  obtain ⟨⟨⟨⟨⟨hw, hc⟩, hs⟩, hnsz⟩, hl⟩, hal⟩ := hb
  obtain ⟨F, h1, h2, h4, h3⟩ := qX_sol h hl
  have hq : ∀ i o, i < n → i ≠ m → ops[i]? = some o → o ∈ quietL ops n m := fun i o hi him ho => by
    refine List.mem_eraseIdx_iff_getElem?.2 ⟨i, him, ?_⟩
    rw [List.getElem?_take_of_lt hi]; simpa using ho
  refine wp_region_any hm ?_
  have hr' : RelE β s a { w with drawn := w.drawn + 1 } := by
    obtain ⟨ω, κ, hr⟩ := hr
    exact ⟨ω, κ, hr.grown ⟨rfl, rfl, rfl, Nat.le_refl _, fun _ _ _ => rfl⟩⟩
  have hg : ∀ j, (Array.replicate ops.size false).getD j false = false := fun j => getD_replicate_false _ _
  have hcur : ∀ k b, curS n m k b s.σ (Array.replicate ops.size false) = s.σ := fun k b => by unfold curS; rw [hg]; simp
  by_cases hmn : m < n
  · have hal := hal.resolve_left (by omega)
    unfold allocB at hal
    split at hal
    · rename_i o ho
      simp only [Bool.and_eq_true, beq_iff_eq, Option.isNone_iff_eq_none] at hal
      obtain ⟨⟨⟨hgu, hop⟩, hdst⟩, hall⟩ := hal
      split at hop
      · rename_i t0 hop0
        have hdrop : (ops.toList.drop m).take 1 = [o] := by
          have hlt := (Array.getElem?_eq_some_iff.1 ho).1
          have hoe : ops.toList[m]'(by simpa using hlt) = o := by
            have := (Array.getElem?_eq_some_iff.1 ho).2; simpa using this
          rw [List.drop_eq_getElem_cons (by simpa using hlt), hoe]; rfl
        have hgd : ∀ E', gdOf ops E' o = some true := fun E' => by simp [gdOf, hgu]
        unfold restL at h1
        rw [if_pos hmn, hdrop, List.singleton_append, opsW_cons, hgd, gdP_t] at h1
        unfold wpO at h1
        simp only [hop0, hdst] at h1
        split at h1
        · rename_i zs hzv
          obtain ⟨hdN, hE, hS, h1⟩ := h1
          have hne : ∀ i o' d', i < n → i ≠ m → ops[i]? = some o' → o'.dst = some d' → d' ≠ d := fun i o' d' hi him ho' hd' e => by
            have := List.all_eq_true.1 hall o' (hq i o' hi him ho')
            simp [hd', e] at this
          have hlk : ∀ i o', i < n → i ≠ m → ops[i]? = some o' → ∀ t ∈ o'.looksAt ops, t ≠ d := fun i o' hi him ho' t ht e => by
            have := List.all_eq_true.1 hall o' (hq i o' hi him ho')
            simp only [Bool.and_eq_true, Bool.not_eq_true', List.contains_eq_mem, decide_eq_false_iff_not] at this
            exact this.2 (e ▸ ht)
          refine head_anyX (s := s) (m := m) (d0 := d) (t0 := t0) (zs := zs) (G := (d, .c (.rf (2 * d) 0)) :: F) hw hc (fun hlt => hs.resolve_left (by omega)) hnsz
            (fun _ => ⟨o, ho, hop0, hdst, hgu⟩) (fun _ => ⟨hzv, hdN, hS, hk, by rw [get_cons, if_pos rfl]⟩) (fun _ i o' d' r hi him ho' hd' hG => ?_) (fun t ht => ?_) (fun i o' hi him ho' => ?_)
            (by rw [if_pos hmn]; exact h1) (fun s' a' w' hk hr => ⟨s', hk, hr⟩) ops.size _ s.E a _ ⟨by simp, fun j oj hj hl => (by rw [hg] at hl; cases hl), fun t _ ht => (by simp [ht])⟩
            (Nat.le_trans (List.length_filter_le _ _) (by simp)) (fun t => ⟨fun ⟨j, o, _, hj, _⟩ => (by rw [hg] at hj; cases hj), fun _ => rfl⟩) (fun _ _ => h4 _ hE) (by rw [hcur]; exact hr')
          · rw [get_cons, if_neg (hne i o' d' hi him ho' hd')] at hG
            exact noE_get hE hG
          · have : t ≠ d := fun e => ht o (List.mem_of_getElem? (i := m) (by rw [List.getElem?_take_of_lt hmn]; simpa using ho)) (by rw [hdst, e])
            rw [get_cons, if_neg this]
            exact h2 t fun o' ho' => ht o' (List.mem_of_mem_eraseIdx ho')
          · exact (h3 o' (hq i o' hi him ho')).congr (fun t ht => by rw [get_cons, if_neg (hlk i o' hi him ho' t ht)]) fun d' hd' => by rw [get_cons, if_neg (hne i o' d' hi him ho' hd')]
        · exact h1.elim
      · cases hop
    · cases hal
  · have hmem : ∀ i o, i < n → ops[i]? = some o → o ∈ quietL ops n m := fun i o hi ho => hq i o hi (by omega) ho
    unfold restL at h1
    rw [if_neg hmn, List.nil_append] at h1
    refine head_anyX (s := s) (m := m) (d0 := d) (t0 := 0) (zs := []) (G := F) hw hc (fun hlt => hs.resolve_left (by omega)) hnsz
      (fun h => absurd h hmn) (fun h => absurd h hmn) (fun h => absurd h hmn) (fun t ht => ?_) (fun i o' hi him ho' => h3 o' (hq i o' hi him ho'))
      (by rw [if_neg hmn]; exact h1) (fun s' a' w' hk hr => ⟨s', hk, hr⟩) ops.size _ s.E a _ ⟨by simp, fun j oj hj hl => (by rw [hg] at hl; cases hl), fun t _ ht => (by simp [ht])⟩
      (Nat.le_trans (List.length_filter_le _ _) (by simp)) (fun t => ⟨fun ⟨j, o, _, hj, _⟩ => (by rw [hg] at hj; cases hj), fun _ => rfl⟩) (fun h => absurd h hmn) (by rw [hcur]; exact hr')
    exact h2 t fun o' ho' => ht o' (List.mem_of_mem_eraseIdx ho')
end
end Go.VC
/- Drawn regions whose reads may come late: a chain of effects, and plain reads that need not wait for it: no statement of a program. -/
set_option linter.unusedSimpArgs false
set_option linter.unusedVariables false
namespace Go.VC
open Go Go.RowKit
section
variable {β : Base} {w w' : World} {ω ω' : Lab} {κ κ' : Nat → Value} {σ σ' : Sto} {E E' : Env} {a a' : Act} {s : St} {P : Program}

/-- A read that leaves the memory alone. -/
def plainB : Op → Bool
  | .call c => match c.callee with
    | .builtin .append => false
    | .builtin _ => true
    | _ => false
  | .buildSlice .. => false
  | .select .. => false
  | _ => true
theorem plain_ev {o : Oper} {r : TV} (hp : plainB o.op = true) (h : qvX P E σ o r) : ev1 P E σ o.op = some r := by
  rcases h with h | ⟨c, h1, h2, _⟩
  · unfold qv at h
    split at h
    · rename_i c hop
      split at h
      · rename_i f hcal; rw [hop] at hp; simp [plainB, hcal] at hp
      · exact h
    · rename_i hop; rw [hop] at hp; simp [plainB] at hp
    · exact h
  · rw [h1] at hp; simp [plainB, h2] at hp
theorem ev_plain {o : Oper} {r : TV} (hp : plainB o.op = true) (h : ev1 P E σ o.op = some r) : qvX P E σ o r := by
  left
  unfold qv
  split
  · rename_i c hop
    split
    · rename_i f hcal; rw [hop] at hp; simp [plainB, hcal] at hp
    · exact h
  · rename_i hop; rw [hop] at hp; simp [plainB] at hp
  · exact h

/-- The same but for some variables. -/
def Ag (D : Nat → Prop) (a a' : Act) : Prop := a'.defers = a.defers ∧ a'.tmps.size = a.tmps.size ∧ ∀ t, ¬ D t → a'.tmps[t]? = a.tmps[t]?
theorem Ag.put {D : Nat → Prop} (h : Ag D a a') (d : Option Nat) (v : Value) : Ag D (a.put d v) (a'.put d v) := by
  cases d with
  | none => exact h
  | some d =>
    refine ⟨h.1, by simp [Act.put, h.2.1], fun t ht => ?_⟩
    have := h.2.2 t ht
    simp only [Act.put, Array.getElem?_setIfInBounds]
    rw [h.2.1, this]
theorem Ag.less {D D' : Nat → Prop} {d : Nat} (h : Ag D a a') (hs : ∀ t, D t → D' t ∨ t = d) (v : Value) (hd : d < a.tmps.size) : Ag D' (a.put (some d) v) (a'.put (some d) v) := by
  refine ⟨h.1, by simp [Act.put, h.2.1], fun t ht => ?_⟩
  simp only [Act.put, Array.getElem?_setIfInBounds]
  rw [h.2.1]
  by_cases hdt : d = t
  · simp [hdt]
  · simp only [hdt, if_false]
    exact h.2.2 t fun hD => (hs t hD).elim ht fun e => hdt e.symm
theorem Ag.virt {D : Nat → Prop} {d : Nat} (h : Ag D a a') (hd : D d) (v : Value) : Ag D a (a'.put (some d) v) := by
  refine ⟨h.1, by simp [Act.put, h.2.1], fun t ht => ?_⟩
  have : d ≠ t := fun e => ht (e ▸ hd)
  simp only [Act.put, Array.getElem?_setIfInBounds_ne this]
  exact h.2.2 t ht
theorem Ag.eval {D : Nat → Prop} (h : Ag D a a') {ops : Array Oper} {o : Oper} (hl : ∀ t ∈ o.looksAt ops, ¬ D t) : ∀ x ∈ o.op.operands, a.eval x = a'.eval x := fun x hx => by
  cases x with
  | tmp t =>
    have := h.2.2 t (hl t (List.mem_append_left _ (List.mem_filterMap.2 ⟨.tmp t, by simpa using hx, rfl⟩)))
    simp [Act.eval, this]
  | _ => rfl
theorem Ag.wanted {D : Nat → Prop} (h : Ag D a a') {ops : Array Oper} {o : Oper} (hl : ∀ t ∈ o.looksAt ops, ¬ D t) : Region.wanted o (yielded ops a.tmps) = Region.wanted o (yielded ops a'.tmps) := by
  unfold Region.wanted
  cases hg : o.guard with
  | none => rfl
  | some gw =>
    obtain ⟨g, want⟩ := gw
    have hy : yielded ops a.tmps g = yielded ops a'.tmps g := by
      unfold yielded
      cases ht : (ops[g]?).bind (·.dst) with
      | none => rfl
      | some t =>
        have := h.2.2 t (hl t (by simp [Oper.looksAt, hg, ht]))
        simp [this]
    simp only [hy]
theorem Ag.rel {D : Nat → Prop} (h : Ag D a a') (hD : ∀ t, ¬ D t) (hr : RelE β s a' w) : RelE β s a w := by
  have : a' = a := by
    obtain ⟨t, d⟩ := a
    obtain ⟨t', d'⟩ := a'
    have h1 : d' = d := h.1
    have h2 : t' = t := by
      apply Array.ext (by exact h.2.1)
      intro i h1 h2
      have := h.2.2 i (hD i)
      simpa [h1, h2] using this
    rw [h1, h2]
  rw [← this]; exact hr
/-- An operation that looks at nothing of what differs. -/
theorem wp_sim {D : Nat → Prop} {ops : Array Oper} {o : Oper} {K : Act → World → Prop} {Q : Exit → Act → World → Prop} (hns : ∀ cs b, o.op ≠ .select cs b) (hl : ∀ t ∈ o.looksAt ops, ¬ D t) (hag : Ag D a a')
    (h : o.wp P a' w K fun e _ w => ∀ a, Q e a w) : o.wp P a w (fun a1 w1 => ∃ a2, Ag D a1 a2 ∧ K a2 w1) Q := by
  unfold Oper.wp at *
  rw [execOp_congr o hns (hag.eval hl)]
  generalize (execOp a'.eval o).run P w = r at *
  cases r with
  | ok n w' =>
    cases n <;> simp only [Oper.upon] at h ⊢
    case value u => exact ⟨_, hag.put _ _, h⟩
    case skip => exact ⟨_, hag.put _ _, h⟩
    case defer d =>
      refine ⟨_, Ag.put (a := { a with defers := d :: a.defers }) (a' := { a' with defers := d :: a'.defers }) ⟨by simp [hag.1], hag.2.1, hag.2.2⟩ _ _, h⟩
    case enter f args =>
      refine Calls.mono h fun e w'' he => ?_
      cases e with
      | returned u => exact ⟨_, hag.put _ _, he⟩
      | panicked c => exact he _
      | outgrown => obtain ⟨b, v, hb⟩ := he; exact ⟨b, v, hb b⟩
    case row row args => exact Rows.mono h fun u w'' he => ⟨_, hag.put _ _, he⟩
  | halt x w' =>
    cases x <;> simp only [Oper.upon] at h ⊢
    case panic u => exact h _

/-- Is j waited for by c, over at most f edges? -/
def befB (ops : Array Oper) : Nat → Nat → Nat → Bool
  | 0, _, _ => false
  | f + 1, c, j => match ops[c]? with
    | some o => o.after.any fun e => Region.binds .any e && (e.on == j || befB ops f e.on j)
    | none => false
def ClosedL (ops : Array Oper) (listed : Array Bool) : Prop := ∀ j oj, ops[j]? = some oj → listed.getD j false = true → ∀ e ∈ oj.after, Region.binds .any e = true → listed.getD e.on false = true
theorem bef_ok {ops : Array Oper} {listed : Array Bool} (hc : ClosedL ops listed) : ∀ (f c j : Nat) (o : Oper), ops[c]? = some o → (∀ e ∈ o.after, Region.binds .any e = true → listed.getD e.on false = true) → befB ops f c j = true → listed.getD j false = true
  | 0, _, _, _, _, _, h => by simp [befB] at h
  | f + 1, c, j, o, ho, hall, h => by
    simp only [befB, ho] at h
    obtain ⟨e, he, hb⟩ := Array.any_eq_true'.1 h
    simp only [Bool.and_eq_true, Bool.or_eq_true, beq_iff_eq] at hb
    have hl := hall e he hb.1
    rcases hb.2 with h1 | h1
    · rw [← h1]; exact hl
    · cases hq : ops[e.on]? with
      | none => cases f with
        | zero => simp [befB] at h1
        | succ f => simp [befB, hq] at h1
      | some q => exact bef_ok hc f e.on j q hq (fun e' he' hb' => hc e.on q hq hl e' he' hb') h1
/-- What is asked of the form: n operations that turn nothing; then a chain; 'LL': which of the n may come behind the chain's operations, one after the other. -/
def lateMB (ops : Array Oper) (n f : Nat) (LL : List (List Nat)) : Bool := waitB ops n && Region.chainB .any ops n && decide (n ≤ ops.size) && lateB ops (ops.toList.take n) &&
  (List.range ops.size).all fun i => decide (i < n) || match ops[i]? with
    | some o => o.guard.isNone && (match o.op with | .select .. => false | _ => true) &&
        ((o.looksAt ops).all fun t => (List.range n).all fun j => match ops[j]? with
          | some q => q.dst != some t || o.after.any fun e => Region.binds .any e && e.on == j
          | none => true) &&
        (List.range n).all fun j => befB ops f i j || ((match ops[j]? with | some q => plainB q.op | none => true) && (LL.getD (i - n) []).contains j)
    | none => true
/-- A read agrees with what stands. -/
def solE (P : Program) (ops : Array Oper) (s : St) (o : Oper) : Prop := match o.dst with
  | some d => d < s.N ∧ (match gdOf ops s.E o with
    | some true => (get s.E d).isSome = true ∧ ev1 P s.E s.σ o.op = get s.E d
    | some false => get s.E d = some (.tp [])
    | none => False)
  | none => False
def solI (P : Program) (ops : Array Oper) (s : St) : List Nat → Prop
  | [] => True
  | j :: r => (match ops[j]? with | some o => solE P ops s o | none => True) ∧ solI P ops s r
/-- The chain; behind each operation the reads that may come late are looked at again. -/
def opsM (P : Program) (ops : Array Oper) : List (List Nat) → List Oper → St → (St → Prop) → Prop
  | _, [], s, K => K s
  | LL, o :: r, s, K => wpO P o s fun s' => solI P ops s' (LL.headD []) ∧ opsM P ops LL.tail r s' K
theorem solI_mem {ops : Array Oper} {j : Nat} {o : Oper} (ho : ops[j]? = some o) {L : List Nat} (h : solI P ops s L) (hj : j ∈ L) : solE P ops s o := by
  induction L with
  | nil => cases hj
  | cons k r ih =>
    simp only [solI] at h
    rcases List.mem_cons.1 hj with rfl | hj
    · have := h.1; rw [ho] at this; exact this
    · exact ih h.2 hj
theorem solE_ok {ops : Array Oper} {o : Oper} (hp : plainB o.op = true) (h : solE P ops s o) : SolX P ops s.σ s.N s.E o := by
  unfold solE at h
  split at h
  · rename_i d hd
    obtain ⟨hN, h⟩ := h
    split at h
    · rename_i hg
      obtain ⟨r, hr⟩ := Option.isSome_iff_exists.1 h.1
      exact ⟨d, r, hd, hN, hr, .inl ⟨hg, ev_plain hp (by rw [h.2, hr])⟩⟩
    · rename_i hg
      exact ⟨d, _, hd, hN, h, .inr ⟨hg, rfl⟩⟩
    · exact h.elim
  · exact h.elim

/-- The variables that are still missing. -/
def Miss (ops : Array Oper) (n : Nat) (listed : Array Bool) (t : Nat) : Prop := ∃ j o, j < n ∧ listed.getD j true = false ∧ ops[j]? = some o ∧ o.dst = some t
theorem count_set {ops : Array Oper} {listed : Array Bool} {i fuel : Nat} (hil : i < ops.size) (hsz : listed.size = ops.size) (hui : listed.getD i true = false) (hf : ((List.range ops.size).filter fun j => !listed.getD j true).length ≤ fuel + 1) :
    ((List.range ops.size).filter fun j => !(listed.setIfInBounds i true).getD j true).length ≤ fuel := by
  have hlt : ((List.range ops.size).filter fun j => !(listed.setIfInBounds i true).getD j true).length < ((List.range ops.size).filter fun j => !listed.getD j true).length := by
    have e : ((List.range ops.size).filter fun j => !(listed.setIfInBounds i true).getD j true) = ((List.range ops.size).filter fun j => !listed.getD j true).filter (fun j => j != i) := by
      rw [List.filter_filter]
      apply List.filter_congr
      intro j hj
      by_cases hij : i = j
      · subst hij; simp [hsz, hil]
      · rw [getD_set_ne true hij]; simp [Ne.symm hij]
    rw [e]
    refine List.length_filter_lt_length_iff_exists.2 ⟨i, List.mem_filter.2 ⟨List.mem_range.2 hil, by simp [hui]⟩, by simp⟩
  omega
theorem ClosedL.set {ops : Array Oper} {listed : Array Bool} {i : Nat} {o : Oper} (hc : ClosedL ops listed) (ho : ops[i]? = some o) (hall : ∀ e ∈ o.after, Region.binds .any e = true → listed.getD e.on false = true) : ClosedL ops (listed.setIfInBounds i true) := fun j oj hj hl e he hb => by
  by_cases hij : i = j
  · subst hij
    have : oj = o := Option.some.inj (hj.symm.trans ho)
    subst this
    exact getD_set_true (hall e he hb)
  · rw [getD_set_ne false hij] at hl
    exact getD_set_true (hc j oj hj hl e he hb)

theorem tail_anyM {ops : Array Oper} {n f : Nat} {LL : List (List Nat)} {Q : Exit → Act → World → Prop} {K : St → Prop} (hb : lateMB ops n f LL = true) (hn : ∀ s' a' w', K s' → RelE β s' a' w' → Q .normal a' w') :
    ∀ (fuel c : Nat) (listed : Array Bool) (s : St) (a a2 : Act) (w : World), n ≤ c → c ≤ ops.size → listed.size = ops.size → ClosedL ops listed → (∀ j, n ≤ j → j < ops.size → listed.getD j true = decide (j < c)) →
      (((List.range ops.size).filter fun j => !listed.getD j true).length ≤ fuel) → Ag (Miss ops n listed) a a2 → RelE β s a2 w → (∀ j o, j < n → listed.getD j true = false → ops[j]? = some o → plainB o.op = true ∧ SolX P ops s.σ s.N s.E o) →
      opsM P ops (LL.drop (c - n)) (ops.toList.drop c) s K → wpAny P .any ops Q fuel listed a w := by
  simp only [lateMB, Bool.and_eq_true, decide_eq_true_eq] at hb
  obtain ⟨⟨⟨⟨hw, hc⟩, hnsz⟩, _⟩, hch⟩ := hb
  have hfin : ∀ (c : Nat) (listed : Array Bool) (s : St) (a a2 : Act) (w : World), n ≤ c → c ≤ ops.size → (∀ j, n ≤ j → j < ops.size → listed.getD j true = decide (j < c)) → Ag (Miss ops n listed) a a2 → RelE β s a2 w →
      opsM P ops (LL.drop (c - n)) (ops.toList.drop c) s K → (∀ j, j < ops.size → listed.getD j true = true) → Q .normal a w := fun c listed s a a2 w hnc hcs hl hag hr hop hall => by
    have hce : c = ops.size := by
      rcases Nat.lt_or_ge c ops.size with h | h
      · have h1 := hl c hnc h
        rw [hall c h] at h1
        simp at h1
      · omega
    subst hce
    rw [List.drop_of_length_le (l := ops.toList) (by simp)] at hop
    refine hn s a w (by cases hd : LL.drop (ops.size - n) <;> (rw [hd] at hop; exact hop)) (hag.rel (fun t ⟨j, o, hj, hu, _⟩ => ?_) hr)
    rw [hall j (by omega)] at hu
    cases hu
  intro fuel
  induction fuel with
  | zero =>
    intro c listed s a a2 w hnc hcs hsz hcl hl hf hag hr hsol hop
    have hall : ∀ j, j < ops.size → listed.getD j true = true := fun j hj => by
      cases hl : listed.getD j true with
      | true => rfl
      | false =>
        have : j ∈ (List.range ops.size).filter fun j => !listed.getD j true := List.mem_filter.2 ⟨List.mem_range.2 hj, by simp [hl]⟩
        have := List.length_pos_of_mem this
        omega
    refine ⟨?_, hfin c listed s a a2 w hnc hcs hl hag hr hop hall⟩
    apply List.eq_nil_iff_forall_not_mem.2
    intro j hj
    obtain ⟨h1, o, ho, _⟩ := mem_ready.1 hj
    rw [hall j (Array.getElem?_eq_some_iff.1 ho).1] at h1
    cases h1
  | succ fuel ih =>
    intro c listed s a a2 w hnc hcs hsz hcl hl hf hag hr hsol hop
    refine ⟨fun hnil => hfin c listed s a a2 w hnc hcs hl hag hr hop fun j hj => ?_, fun i hi => ?_⟩
    · cases hu : listed.getD j true with
      | true => rfl
      | false =>
        obtain ⟨j1, hj1, _⟩ := ready_least hw hsz j hj hu
        rw [hnil] at hj1; cases hj1
    · obtain ⟨hui, o, ho, hall⟩ := mem_ready.1 hi
      have hil : i < ops.size := (Array.getElem?_eq_some_iff.1 ho).1
      have hcount := count_set hil hsz hui hf
      have hcl' := hcl.set ho hall
      have hnone : ∀ {j : Nat}, j < ops.size → listed.getD j true = false → listed.getD j false = true → False := fun {j} hj h1 h2 => by
        have : j < listed.size := by omega
        simp [this] at h1 h2
        rw [h1] at h2; cases h2
      by_cases hin : i < n
      · obtain ⟨hpl, d, r, hd, hdN, hG, hsl⟩ := hsol i o hin hui ho
        have hlk : ∀ t ∈ o.looksAt ops, ¬ Miss ops n listed t := fun t ht ⟨j, q, hj, hu, hq, hdq⟩ => by
          obtain ⟨e, he, hb, hon⟩ := (waitB_spec hw ho).2 hin t ht j q hj hq hdq
          exact hnone (by omega) hu (hon ▸ hall e he hb)
        obtain ⟨ω, κ, hr'⟩ := id hr
        have key : ∀ u, RT w ω κ s.σ r u → wpAny P .any ops Q fuel (listed.setIfInBounds i true) (a.put (some d) u) w := fun u hu => by
          refine ih c _ s _ (a2.put (some d) u) w hnc hcs (by simp [hsz]) hcl' (fun j h1 h2 => ?_) hcount ?_ ?_ (fun j q hj hq hqo => ?_) hop
          · rw [getD_set_ne true (by omega)]; exact hl j h1 h2
          · refine hag.less (fun t ⟨j, q, hj, hu, hq, hdq⟩ => ?_) u (by rw [← hag.2.1, hr'.size]; exact hdN)
            by_cases hij : i = j
            · subst hij
              have : q = o := Option.some.inj (hq.symm.trans ho)
              subst this
              rw [hd] at hdq
              exact .inr (Option.some.inj hdq).symm
            · exact .inl ⟨j, q, hj, by rw [getD_set_ne true hij]; exact hu, hq, hdq⟩
          · refine RelE.weak ⟨ω, κ, hr'.put hdN hu⟩ ⟨rfl, fun t x hx => ?_, fun _ _ h => h⟩
            rw [get_cons]
            split
            · rename_i e; subst e; rw [hG] at hx; exact hx
            · exact hx
          · refine hsol j q hj ?_ hqo
            by_cases hij : i = j
            · subst hij
              have : i < listed.size := by omega
              simp [this] at hq
            · rw [getD_set_ne true hij] at hq; exact hq
        unfold wpOp
        simp only [ho]
        rw [hag.wanted hlk]
        rcases hsl with ⟨hg, hq⟩ | ⟨hg, rfl⟩
        · rw [if_pos (gdOf_ok hr'.env hg)]
          obtain ⟨u, g1, g2⟩ := ev1_ok (P := P) (o := o) hr'.rs hr'.env (plain_ev hpl hq)
          refine .inl ?_
          unfold Oper.wp
          rw [execOp_congr o (fun cs b e => by rw [e] at hpl; simp [plainB] at hpl) (hag.eval hlk), g1, Oper.upon_value, hd]
          exact key u g2
        · have hf' := gdOf_ok hr'.env hg
          rw [if_neg (by rw [hf']; simp), hd]
          exact key _ ⟨[], rfl, rfl, by simp⟩
      · have hic : i = c := by
          have h1 := hl i (by omega) hil
          rw [hui] at h1
          have h1 : ¬ i < c := by simpa using h1.symm
          rcases Nat.lt_or_ge c i with h | h
          · have hcc := List.all_eq_true.1 hc i (List.mem_range.2 hil)
            simp only [Bool.or_eq_true, decide_eq_true_eq] at hcc
            rcases hcc with hcc | hcc
            · omega
            · obtain ⟨oi, ho2, e, he, hb, hon⟩ := Region.waitsFor_spec hcc
              have : oi = o := Option.some.inj (ho2.symm.trans ho)
              subst this
              have h2 := hall e he hb
              rw [hon] at h2
              have h3 := hl (i - 1) (by omega) (by omega)
              have h4 : listed.getD (i - 1) true = listed.getD (i - 1) false := by
                have : i - 1 < listed.size := by omega
                simp [this]
              rw [h4, h2] at h3
              simp at h3
              omega
          · omega
        subst hic
        have hck := List.all_eq_true.1 hch i (List.mem_range.2 hil)
        simp only [ho, Bool.or_eq_true, decide_eq_true_eq, hin, false_or, Bool.and_eq_true, Option.isNone_iff_eq_none] at hck
        obtain ⟨⟨⟨hgu, hns⟩, hlook⟩, hlate⟩ := hck
        have hns' : ∀ cs b, o.op ≠ .select cs b := fun cs b e => by rw [e] at hns; cases hns
        have hlk : ∀ t ∈ o.looksAt ops, ¬ Miss ops n listed t := fun t ht ⟨j, q, hj, hu, hq, hdq⟩ => by
          have h1 := List.all_eq_true.1 (List.all_eq_true.1 hlook t ht) j (List.mem_range.2 hj)
          simp only [hq, hdq, Bool.or_eq_true] at h1
          rcases h1 with h1 | h1
          · simp at h1
          · obtain ⟨e, he, hb⟩ := Array.any_eq_true'.1 h1
            simp only [Bool.and_eq_true, beq_iff_eq] at hb
            exact hnone (by omega) hu (hb.2 ▸ hall e he hb.1)
        have hdrop : ops.toList.drop i = o :: ops.toList.drop (i + 1) := by
          rw [List.drop_eq_getElem_cons (by simpa using hil)]
          have := (Array.getElem?_eq_some_iff.1 ho).2
          simp [this]
        rw [hdrop] at hop
        have hop : wpO P o s fun s' => solI P ops s' ((LL.drop (i - n)).headD []) ∧ opsM P ops (LL.drop (i - n)).tail (ops.toList.drop (i + 1)) s' K := by
          cases hd : LL.drop (i - n) <;> (rw [hd] at hop; exact hop)
        have hhd : (LL.drop (i - n)).headD [] = LL.getD (i - n) [] := by
          rw [List.headD_eq_head?_getD, List.head?_drop]; rfl
        have htl : (LL.drop (i - n)).tail = LL.drop (i + 1 - n) := by
          rw [List.tail_drop]; congr 1; omega
        rw [hhd, htl] at hop
        unfold wpOp
        simp only [ho]
        rw [if_pos (by simp [Region.wanted, hgu])]
        have hsim := wp_sim (Q := Q) hns' hlk hag (wpO_ok (next := fun a' w' => ∃ s', (solI P ops s' (LL.getD (i - n) []) ∧ opsM P ops (LL.drop (i + 1 - n)) (ops.toList.drop (i + 1)) s' K) ∧ RelE β s' a' w') (Q := fun e _ w => ∀ a, Q e a w) hop hr fun s' a' w' h1 h2 => ⟨s', h1, h2⟩)
        refine .inl (Oper.wp_mono (fun a1 w1 h => ?_) hsim)
        obtain ⟨a3, hag3, s', ⟨hso, hK⟩, hr3⟩ := h
        have hmiss : ∀ {j : Nat}, j < n → (listed.setIfInBounds i true).getD j true = listed.getD j true := fun {j} hj => getD_set_ne true (by omega)
        refine ih (i + 1) _ s' a1 a3 w1 (by omega) (by omega) (by simp [hsz]) hcl' (fun j h1 h2 => ?_) hcount ⟨hag3.1, hag3.2.1, fun t ht => hag3.2.2 t fun ⟨j, q, hj, hu, hq⟩ => ht ⟨j, q, hj, by rw [hmiss hj]; exact hu, hq⟩⟩ hr3 (fun j q hj hu hq => ?_) hK
        · by_cases hij : i = j
          · subst hij; simp [hsz, hil]
          · rw [getD_set_ne true hij, hl j h1 h2]
            simp only [decide_eq_decide]; omega
        · rw [hmiss hj] at hu
          have h1 := List.all_eq_true.1 hlate j (List.mem_range.2 hj)
          simp only [hq, Bool.or_eq_true, Bool.and_eq_true, List.contains_eq_mem, decide_eq_true_eq] at h1
          rcases h1 with h1 | ⟨h1, h2⟩
          · exact (hnone (by omega) hu (bef_ok hcl f i j o ho hall h1)).elim
          · exact ⟨h1, solE_ok h1 (solI_mem hq hso h2)⟩

theorem Mix.set {ops : Array Oper} {n i d : Nat} {L : Array Bool} {F : Env} {o : Oper} {r : TV} (hmix : Mix ops n L E F E') (ho : ops[i]? = some o) (hin : i < n) (hsz : L.size = ops.size) (hd : o.dst = some d) (hF : get F d = some r) :
    Mix ops n (L.setIfInBounds i true) E F ((d, r) :: E') := fun t => by
  have hil : i < ops.size := (Array.getElem?_eq_some_iff.1 ho).1
  have hset : (L.setIfInBounds i true).getD i false = true := by simp [hsz, hil]
  by_cases htd : t = d
  · subst htd
    exact ⟨fun _ => by rw [get_cons, if_pos rfl, hF], fun h => absurd ⟨i, o, hin, hset, ho, hd⟩ h⟩
  · have hiff : Wrote ops n (L.setIfInBounds i true) t ↔ Wrote ops n L t := by
      constructor
      · rintro ⟨j, q, h1, h2, h3, h4⟩
        by_cases hij : i = j
        · subst hij
          have : q = o := Option.some.inj (h3.symm.trans ho)
          subst this
          rw [hd] at h4
          exact absurd (Option.some.inj h4).symm htd
        · exact ⟨j, q, h1, by rwa [getD_set_ne false hij] at h2, h3, h4⟩
      · rintro ⟨j, q, h1, h2, h3, h4⟩
        by_cases hij : i = j
        · subst hij; exact ⟨i, q, h1, hset, h3, h4⟩
        · exact ⟨j, q, h1, by rw [getD_set_ne false hij]; exact h2, h3, h4⟩
    rw [get_cons, if_neg htd, hiff]
    exact hmix t
/-- What an operation looks at stands, when all that it waits for stands. -/
theorem Mix.looks {ops : Array Oper} {n i : Nat} {L : Array Bool} {F : Env} {o : Oper} (hw : waitB ops n = true) (hout : ∀ t, (∀ o ∈ ops.toList.take n, o.dst ≠ some t) → get F t = get E t) (hmix : Mix ops n L E F E') (ho : ops[i]? = some o) (hin : i < n)
    (hall : ∀ e ∈ o.after, Region.binds .any e = true → L.getD e.on false = true) : ∀ t ∈ o.looksAt ops, get F t = get E' t := fun t ht => by
  by_cases hwr : Wrote ops n L t
  · exact ((hmix t).1 hwr).symm
  · rw [(hmix t).2 hwr, hout t fun q hq he => ?_]
    obtain ⟨j, hj⟩ := List.getElem?_of_mem hq
    have hjn : j < n := by have := (List.getElem?_eq_some_iff.1 hj).1; simp at this; omega
    rw [List.getElem?_take_of_lt hjn] at hj
    have hj' : ops[j]? = some q := by simpa using hj
    obtain ⟨e, he1, hb, hon⟩ := (waitB_spec hw ho).2 hin t ht j q hjn hj' he
    exact hwr ⟨j, q, hjn, by rw [← hon]; exact hall e he1 hb, hj', he⟩
theorem Mix.full {ops : Array Oper} {n : Nat} {L : Array Bool} {F : Env} (hnsz : n ≤ ops.size) (hout : ∀ t, (∀ o ∈ ops.toList.take n, o.dst ≠ some t) → get F t = get E t) (hmix : Mix ops n L E F E') (hall : ∀ j, j < n → L.getD j false = true) : ∀ t, get E' t = get F t := fun t => by
  by_cases hwr : Wrote ops n L t
  · exact (hmix t).1 hwr
  · rw [(hmix t).2 hwr, hout t fun q hq he => hwr ?_]
    obtain ⟨j, hj⟩ := List.getElem?_of_mem hq
    have hjn : j < n := by have := (List.getElem?_eq_some_iff.1 hj).1; simp at this; omega
    rw [List.getElem?_take_of_lt hjn] at hj
    exact ⟨j, q, hjn, hall j hjn, by simpa using hj, he⟩
/-- The missing reads, read at once. -/
theorem virt {ops : Array Oper} {n : Nat} {listed : Array Bool} {F : Env} (hw : waitB ops n = true) (hnsz : n ≤ ops.size) (hsz : listed.size = ops.size) (hout : ∀ t, (∀ o ∈ ops.toList.take n, o.dst ≠ some t) → get F t = get s.E t)
    (hsol : ∀ i o, i < n → ops[i]? = some o → SolX P ops s.σ s.N F o) (hpl : ∀ i o, i < n → listed.getD i true = false → ops[i]? = some o → plainB o.op = true) (hmix : Mix ops n listed s.E F E') (hr : RelE β ⟨s.N, E', s.σ⟩ a w) :
    ∃ a2, Ag (Miss ops n listed) a a2 ∧ RelE β ⟨s.N, F, s.σ⟩ a2 w := by
  have step : ∀ k, k ≤ n → ∃ L E2 a2, L.size = ops.size ∧ (∀ j, j < k → L.getD j false = true) ∧ (∀ j, listed.getD j false = true → L.getD j false = true) ∧ Mix ops n L s.E F E2 ∧ Ag (Miss ops n listed) a a2 ∧ RelE β ⟨s.N, E2, s.σ⟩ a2 w := by
    intro k
    induction k with
    | zero => intro _; exact ⟨listed, E', a, hsz, fun j hj => by omega, fun _ h => h, hmix, ⟨rfl, rfl, fun _ _ => rfl⟩, hr⟩
    | succ k ih =>
      intro hk
      obtain ⟨L, E2, a2, h1, h2, h3, h4, h5, h6⟩ := ih (by omega)
      cases hl : L.getD k false with
      | true => exact ⟨L, E2, a2, h1, fun j hj => by
          rcases Nat.lt_or_ge j k with h | h
          · exact h2 j h
          · obtain rfl : j = k := by omega
            exact hl, h3, h4, h5, h6⟩
      | false =>
        have hkl : k < ops.size := by omega
        have ho : ops[k]? = some ops[k] := by simp [hkl]
        generalize ops[k] = o at ho
        have hu : listed.getD k true = false := by
          cases h : listed.getD k false with
          | true => rw [h3 k h] at hl; cases hl
          | false =>
            have : k < listed.size := by omega
            simpa [this] using h
        obtain ⟨d, r, hd, hdN, hF, hsl⟩ := hsol k o (by omega) ho
        have hall : ∀ e ∈ o.after, Region.binds .any e = true → L.getD e.on false = true := fun e he hb => h2 e.on ((waitB_spec hw ho).1 e he hb)
        have hag := h4.looks hw hout ho (by omega) hall
        obtain ⟨ω, κ, hr'⟩ := id h6
        have key : ∀ u, RT w ω κ s.σ r u → ∃ L E2 a2, L.size = ops.size ∧ (∀ j, j < k + 1 → L.getD j false = true) ∧ (∀ j, listed.getD j false = true → L.getD j false = true) ∧ Mix ops n L s.E F E2 ∧ Ag (Miss ops n listed) a a2 ∧ RelE β ⟨s.N, E2, s.σ⟩ a2 w := fun u hu' => by
          refine ⟨L.setIfInBounds k true, (d, r) :: E2, a2.put (some d) u, by simp [h1], fun j hj => ?_, fun j hj => getD_set_true (h3 j hj), h4.set ho (by omega) h1 hd hF, h5.virt ⟨k, o, by omega, hu, ho, hd⟩ u, ⟨ω, κ, hr'.put hdN hu'⟩⟩
          rcases Nat.lt_or_ge j k with h | h
          · exact getD_set_true (h2 j h)
          · obtain rfl : j = k := by omega
            simp [h1, hkl]
        rcases hsl with ⟨hg, hq⟩ | ⟨hg, rfl⟩
        · obtain ⟨u, g1, g2⟩ := ev1_ok (P := P) (o := o) hr'.rs hr'.env (plain_ev (hpl k o (by omega) hu ho) (qvX_congr (looks_opnd hag) hq))
          exact key u g2
        · exact key undef ⟨[], rfl, rfl, by simp⟩
  obtain ⟨L, E2, a2, h1, h2, h3, h4, h5, h6⟩ := step n (Nat.le_refl _)
  exact ⟨a2, h5, h6.weak ⟨rfl, fun t x hx => by rw [h4.full hnsz hout h2]; exact hx, fun _ _ h => h⟩⟩

theorem head_anyM {ops : Array Oper} {n f : Nat} {LL : List (List Nat)} {Q : Exit → Act → World → Prop} {K : St → Prop} {F : Env} (hb : lateMB ops n f LL = true)
    (hout : ∀ t, (∀ o ∈ ops.toList.take n, o.dst ≠ some t) → get F t = get s.E t) (hsol : ∀ i o, i < n → ops[i]? = some o → SolX P ops s.σ s.N F o)
    (hop : opsM P ops LL (ops.toList.drop n) ⟨s.N, F, s.σ⟩ K) (hn : ∀ s' a' w', K s' → RelE β s' a' w' → Q .normal a' w') :
    ∀ (fuel : Nat) (listed : Array Bool) (E' : Env) (a : Act) (w : World), listed.size = ops.size → ClosedL ops listed → (∀ j, n ≤ j → j < ops.size → listed.getD j true = false) → (((List.range ops.size).filter fun j => !listed.getD j true).length ≤ fuel) →
      Mix ops n listed s.E F E' → RelE β ⟨s.N, E', s.σ⟩ a w → wpAny P .any ops Q fuel listed a w := by
  have hb' := hb
  simp only [lateMB, Bool.and_eq_true, decide_eq_true_eq] at hb
  obtain ⟨⟨⟨⟨hw, hc⟩, hnsz⟩, _⟩, hch⟩ := hb
  have plainly : ∀ (fuel : Nat) (listed : Array Bool) (E' : Env) (a : Act) (w : World), listed.size = ops.size → ClosedL ops listed → (∀ j, n ≤ j → j < ops.size → listed.getD j true = false) → (((List.range ops.size).filter fun j => !listed.getD j true).length ≤ fuel) →
      Mix ops n listed s.E F E' → RelE β ⟨s.N, E', s.σ⟩ a w → (∀ j o, j < n → listed.getD j true = false → ops[j]? = some o → plainB o.op = true) → wpAny P .any ops Q fuel listed a w := fun fuel listed E' a w hsz hcl ht hf hmix hr hp => by
    obtain ⟨a2, hag, hr2⟩ := virt hw hnsz hsz hout hsol hp hmix hr
    exact tail_anyM hb' hn fuel n listed ⟨s.N, F, s.σ⟩ a a2 w (Nat.le_refl _) hnsz hsz hcl (fun j h1 h2 => by rw [ht j h1 h2]; simp; omega) hf hag hr2 (fun j o hj hu ho => ⟨hp j o hj hu ho, hsol j o hj ho⟩) (by rw [Nat.sub_self, List.drop_zero]; exact hop)
  intro fuel
  induction fuel with
  | zero =>
    intro listed E' a w hsz hcl ht hf hmix hr
    refine plainly 0 listed E' a w hsz hcl ht hf hmix hr fun j o hj hu ho => ?_
    have : j ∈ (List.range ops.size).filter fun j => !listed.getD j true := List.mem_filter.2 ⟨List.mem_range.2 (by omega), by simp [hu]⟩
    have := List.length_pos_of_mem this
    omega
  | succ fuel ih =>
    intro listed E' a w hsz hcl ht hf hmix hr
    by_cases hp : ∀ j o, j < n → listed.getD j true = false → ops[j]? = some o → plainB o.op = true
    · exact plainly (fuel + 1) listed E' a w hsz hcl ht hf hmix hr hp
    · obtain ⟨j0, q0, hj0, hun0, hq0, hnp⟩ : ∃ j o, j < n ∧ listed.getD j true = false ∧ ops[j]? = some o ∧ ¬ plainB o.op = true := by
        apply Classical.byContradiction
        intro hno
        exact hp fun j o h1 h2 h3 => Classical.byContradiction fun h4 => hno ⟨j, o, h1, h2, h3, h4⟩
      have hnone : ∀ {j : Nat}, j < ops.size → listed.getD j true = false → listed.getD j false = true → False := fun {j} hj h1 h2 => by
        have : j < listed.size := by omega
        simp [this] at h1 h2
        rw [h1] at h2; cases h2
      obtain ⟨j1, hj1, _⟩ := ready_least hw hsz j0 (by omega) hun0
      refine ⟨fun h => (by rw [h] at hj1; cases hj1), fun i hi => ?_⟩
      obtain ⟨hui, o, ho, hall⟩ := mem_ready.1 hi
      have hil : i < ops.size := (Array.getElem?_eq_some_iff.1 ho).1
      have hin : i < n := by
        rcases Nat.lt_or_ge i n with h | h
        · exact h
        · have hck := List.all_eq_true.1 hch i (List.mem_range.2 hil)
          simp only [ho, Bool.or_eq_true, decide_eq_true_eq, (show ¬ i < n by omega), false_or, Bool.and_eq_true] at hck
          have h1 := List.all_eq_true.1 hck.2 j0 (List.mem_range.2 hj0)
          simp only [hq0, Bool.or_eq_true, Bool.and_eq_true] at h1
          rcases h1 with h1 | h1
          · exact (hnone (by omega) hun0 (bef_ok hcl f i j0 o ho hall h1)).elim
          · exact absurd h1.1 hnp
      obtain ⟨d, r, hd, hdN, hF, hsl⟩ := hsol i o hin ho
      have hag := hmix.looks hw hout ho hin hall
      have hnext : ∀ a' w', RelE β ((⟨s.N, E', s.σ⟩ : St).put d r) a' w' → wpAny P .any ops Q fuel (listed.setIfInBounds i true) a' w' := fun a' w' hr' =>
        ih _ ((d, r) :: E') a' w' (by simp [hsz]) (hcl.set ho hall) (fun j h1 h2 => by rw [getD_set_ne true (by omega)]; exact ht j h1 h2) (count_set hil hsz hui hf) (hmix.set ho hin hsz hd hF) hr'
      unfold wpOp
      simp only [ho]
      obtain ⟨ω, κ, hr'⟩ := id hr
      rcases hsl with ⟨hg, hq⟩ | ⟨hg, rfl⟩
      · rw [gdOf_congr hag] at hg
        rw [if_pos (gdOf_ok hr'.env hg)]
        exact .inl (qvX_ok (s := ⟨s.N, E', s.σ⟩) (qvX_congr (looks_opnd hag) hq) hd hdN hr hnext)
      · rw [gdOf_congr hag] at hg
        have hf' := gdOf_ok hr'.env hg
        rw [if_neg (by rw [hf']; simp), hd]
        exact hnext _ _ ⟨ω, κ, hr'.put hdN ⟨[], rfl, rfl, by simp⟩⟩
/-- **A region whose order is open: reads that may come late.** -/
theorem Sm.drawM {id : Nat} {ops : Array Oper} {K : Exit → St → Prop} {l1 l2 : List Oper} (n f : Nat) (LL : List (List Nat)) (hm : P.follows .mixedOrders = true) (hb : lateMB ops n f LL = true) (e1 : ops.toList.take n = l1) (e2 : ops.toList.drop n = l2)
    (h : qX P ops l1 s fun s' => opsM P ops LL l2 s' (K .normal)) : Sm P (.region id ops true) s K := fun β a w hr => by
  subst e1; subst e2
  have hb' := hb
  simp only [lateMB, Bool.and_eq_true, decide_eq_true_eq] at hb
  obtain ⟨⟨⟨⟨hw, hc⟩, hnsz⟩, hl⟩, hch⟩ := hb
  obtain ⟨F, h1, h2, h4, h3⟩ := qX_sol h hl
  refine wp_region_any hm ?_
  have hr' : RelE β s a { w with drawn := w.drawn + 1 } := by
    obtain ⟨ω, κ, hr⟩ := hr
    exact ⟨ω, κ, hr.grown ⟨rfl, rfl, rfl, Nat.le_refl _, fun _ _ _ => rfl⟩⟩
  have hg : ∀ j, (Array.replicate ops.size false).getD j false = false := fun j => getD_replicate_false _ _
  refine head_anyM (s := s) (F := F) hb' h2 (fun i o hi ho => h3 o (List.mem_of_getElem? (i := i) (by rw [List.getElem?_take_of_lt hi]; simpa using ho))) h1 (fun s' a' w' hk hr => ⟨s', hk, hr⟩) ops.size _ s.E a _ (by simp)
    (fun j oj hj hl => (by rw [hg] at hl; cases hl)) (fun j h1 h2 => (by simp [h2])) (Nat.le_trans (List.length_filter_le _ _) (by simp)) (fun t => ⟨fun ⟨j, o, _, hj, _⟩ => (by rw [hg] at hj; cases hj), fun _ => rfl⟩) hr'
end
end Go.VC
/- Drawn regions whose reads may come late, wherever they stand in the numbering: no statement of a program. -/
set_option linter.unusedSimpArgs false
set_option linter.unusedVariables false
namespace Go.VC
open Go Go.RowKit
section
variable {β : Base} {w w' : World} {ω ω' : Lab} {κ κ' : Nat → Value} {σ σ' : Sto} {E E' : Env} {a a' : Act} {s : St} {P : Program}
/-- The chain's places. -/
def chI (ops : Array Oper) (iq : Nat → Bool) : List Nat := (List.range ops.size).filter fun i => !iq i
def chO (ops : Array Oper) (iq : Nat → Bool) : List Oper := (chI ops iq).filterMap fun i => ops[i]?
def quO (ops : Array Oper) (iq : Nat → Bool) : List Oper := ((List.range ops.size).filter iq).filterMap fun i => ops[i]?
theorem mem_quO {ops : Array Oper} {iq : Nat → Bool} {o : Oper} : o ∈ quO ops iq ↔ ∃ i, iq i = true ∧ ops[i]? = some o := by
  unfold quO
  simp only [List.mem_filterMap, List.mem_filter, List.mem_range]
  constructor
  · rintro ⟨i, ⟨_, h1⟩, h2⟩; exact ⟨i, h1, h2⟩
  · rintro ⟨i, h1, h2⟩; exact ⟨i, ⟨(Array.getElem?_eq_some_iff.1 h2).1, h1⟩, h2⟩
def lateQB (ops : Array Oper) (iq : Nat → Bool) (f : Nat) (LL : List (List Nat)) : Bool := waitB ops 0 && lateB ops (quO ops iq) &&
  ((List.range ops.size).all fun i => !iq i || match ops[i]? with
    | some o => (o.looksAt ops).all fun t => (List.range ops.size).all fun j => !iq j || match ops[j]? with
      | some q => q.dst != some t || o.after.any fun e => Region.binds .any e && e.on == j
      | none => true
    | none => true) &&
  (List.range (chI ops iq).length).all fun m => (decide (m = 0) || befB ops f ((chI ops iq).getD m 0) ((chI ops iq).getD (m - 1) 0)) && match ops[(chI ops iq).getD m 0]? with
    | some o => o.guard.isNone && (match o.op with | .select .. => false | _ => true) &&
        ((o.looksAt ops).all fun t => (List.range ops.size).all fun j => !iq j || match ops[j]? with
          | some q => q.dst != some t || o.after.any fun e => Region.binds .any e && e.on == j
          | none => true) &&
        (List.range ops.size).all fun j => !iq j || befB ops f ((chI ops iq).getD m 0) j || ((match ops[j]? with | some q => plainB q.op | none => true) && (LL.getD m []).contains j)
    | none => true
/-- The variables that are still missing. -/
def MissQ (ops : Array Oper) (iq : Nat → Bool) (listed : Array Bool) (t : Nat) : Prop := ∃ j o, iq j = true ∧ listed.getD j true = false ∧ ops[j]? = some o ∧ o.dst = some t
def WroteQ (ops : Array Oper) (iq : Nat → Bool) (listed : Array Bool) (t : Nat) : Prop := ∃ j o, iq j = true ∧ listed.getD j false = true ∧ ops[j]? = some o ∧ o.dst = some t
def MixQ (ops : Array Oper) (iq : Nat → Bool) (listed : Array Bool) (E F E' : Env) : Prop := ∀ t, (WroteQ ops iq listed t → get E' t = get F t) ∧ (¬ WroteQ ops iq listed t → get E' t = get E t)
/-- What is known of the form. -/
structure LQ (ops : Array Oper) (iq : Nat → Bool) (f : Nat) (LL : List (List Nat)) : Prop where
  back : waitB ops 0 = true
  looks : ∀ i o, iq i = true → ops[i]? = some o → ∀ t ∈ o.looksAt ops, ∀ j q, iq j = true → ops[j]? = some q → q.dst = some t → ∃ e ∈ o.after, Region.binds .any e = true ∧ e.on = j
  prev : ∀ m i p, (chI ops iq)[m + 1]? = some i → (chI ops iq)[m]? = some p → befB ops f i p = true
  chain : ∀ m i o, (chI ops iq)[m]? = some i → ops[i]? = some o → o.guard = none ∧ (∀ cs b, o.op ≠ .select cs b) ∧ (∀ t ∈ o.looksAt ops, ∀ j q, iq j = true → ops[j]? = some q → q.dst = some t → ∃ e ∈ o.after, Region.binds .any e = true ∧ e.on = j) ∧
    ∀ j q, iq j = true → ops[j]? = some q → befB ops f i j = true ∨ (plainB q.op = true ∧ j ∈ LL.getD m [])
theorem LQ.of {ops : Array Oper} {iq : Nat → Bool} {f : Nat} {LL : List (List Nat)} (hb : lateQB ops iq f LL = true) : LQ ops iq f LL := by
  simp only [lateQB, Bool.and_eq_true] at hb
  obtain ⟨⟨⟨h1, _⟩, h2⟩, h3⟩ := hb
  have hedge : ∀ {o : Oper} {t j : Nat} {q : Oper}, iq j = true → ops[j]? = some q → q.dst = some t → ((List.range ops.size).all fun j => !iq j || match ops[j]? with
          | some q => q.dst != some t || o.after.any fun e => Region.binds .any e && e.on == j
          | none => true) = true → ∃ e ∈ o.after, Region.binds .any e = true ∧ e.on = j := fun {o t j q} hj hq hd h => by
    have h4 := List.all_eq_true.1 h j (List.mem_range.2 (Array.getElem?_eq_some_iff.1 hq).1)
    simp only [hj, hq, hd, Bool.not_true, Bool.false_or, Bool.or_eq_true] at h4
    rcases h4 with h4 | h4
    · simp at h4
    · obtain ⟨e, he, hb⟩ := Array.any_eq_true'.1 h4
      simp only [Bool.and_eq_true, beq_iff_eq] at hb
      exact ⟨e, he, hb.1, hb.2⟩
  have hget : ∀ {m i : Nat}, (chI ops iq)[m]? = some i → (chI ops iq).getD m 0 = i ∧ m < (chI ops iq).length := fun {m i} h => ⟨by simp [List.getD, h], (List.getElem?_eq_some_iff.1 h).1⟩
  refine ⟨h1, fun i o hi ho t ht j q hj hq hd => ?_, fun m i p hi hp => ?_, fun m i o hi ho => ?_⟩
  · have h4 := List.all_eq_true.1 h2 i (List.mem_range.2 (Array.getElem?_eq_some_iff.1 ho).1)
    simp only [hi, ho, Bool.not_true, Bool.false_or] at h4
    exact hedge hj hq hd (List.all_eq_true.1 h4 t ht)
  · have h4 := List.all_eq_true.1 h3 (m + 1) (List.mem_range.2 (hget hi).2)
    simp only [Bool.and_eq_true, Bool.or_eq_true, decide_eq_true_eq, (hget hi).1, Nat.add_sub_cancel, (hget hp).1] at h4
    exact h4.1.resolve_left (by omega)
  · have h4 := (Bool.and_eq_true_iff.1 (List.all_eq_true.1 h3 m (List.mem_range.2 (hget hi).2))).2
    simp only [(hget hi).1, ho, Bool.and_eq_true, Option.isNone_iff_eq_none] at h4
    obtain ⟨⟨⟨g1, g2⟩, g3⟩, g4⟩ := h4
    refine ⟨g1, fun cs b e => (by rw [e] at g2; cases g2), fun t ht j q hj hq hd => hedge hj hq hd (List.all_eq_true.1 g3 t ht), fun j q hj hq => ?_⟩
    have h5 := List.all_eq_true.1 g4 j (List.mem_range.2 (Array.getElem?_eq_some_iff.1 hq).1)
    simp only [hj, hq, Bool.not_true, Bool.false_or, Bool.or_eq_true, Bool.and_eq_true, List.contains_eq_mem, decide_eq_true_eq] at h5
    exact h5

theorem chI_mem {ops : Array Oper} {iq : Nat → Bool} {i : Nat} (hil : i < ops.size) (hi : iq i = false) : ∃ m : Nat, (chI ops iq)[m]? = some i := by
  have : i ∈ chI ops iq := by unfold chI; exact List.mem_filter.2 ⟨List.mem_range.2 hil, by simp [hi]⟩
  exact List.mem_iff_getElem?.1 this
theorem chI_at {ops : Array Oper} {iq : Nat → Bool} {m i : Nat} (h : (chI ops iq)[m]? = some i) : i < ops.size ∧ iq i = false := by
  have := List.mem_of_getElem? h
  unfold chI at this
  obtain ⟨h1, h2⟩ := List.mem_filter.1 this
  exact ⟨List.mem_range.1 h1, by simpa using h2⟩
theorem chI_inj {ops : Array Oper} {iq : Nat → Bool} {m m' i : Nat} (h : (chI ops iq)[m]? = some i) (h' : (chI ops iq)[m']? = some i) : m = m' := by
  have hn : (chI ops iq).Nodup := List.Pairwise.filter _ List.nodup_range
  obtain ⟨h1, h2⟩ := List.getElem?_eq_some_iff.1 h
  obtain ⟨h3, h4⟩ := List.getElem?_eq_some_iff.1 h'
  have hp := List.pairwise_iff_getElem.1 hn
  rcases Nat.lt_trichotomy m m' with g | g | g
  · exact absurd (h2.trans h4.symm) (hp m m' h1 h3 g)
  · exact g
  · exact absurd (h4.trans h2.symm) (hp m' m h3 h1 g)
theorem tail_anyQ {ops : Array Oper} {iq : Nat → Bool} {f : Nat} {LL : List (List Nat)} {Q : Exit → Act → World → Prop} {K : St → Prop} (hb : LQ ops iq f LL) (hn : ∀ s' a' w', K s' → RelE β s' a' w' → Q .normal a' w') :
    ∀ (fuel k : Nat) (listed : Array Bool) (s : St) (a a2 : Act) (w : World), k ≤ (chI ops iq).length → listed.size = ops.size → ClosedL ops listed → (∀ m i, (chI ops iq)[m]? = some i → listed.getD i true = decide (m < k)) →
      (((List.range ops.size).filter fun j => !listed.getD j true).length ≤ fuel) → Ag (MissQ ops iq listed) a a2 → RelE β s a2 w → (∀ j o, iq j = true → listed.getD j true = false → ops[j]? = some o → plainB o.op = true ∧ SolX P ops s.σ s.N s.E o) →
      opsM P ops (LL.drop k) (((chI ops iq).drop k).filterMap fun i => ops[i]?) s K → wpAny P .any ops Q fuel listed a w := by
  obtain ⟨hw, hlooks, hprev, hchain⟩ := hb
  have hfin : ∀ (k : Nat) (listed : Array Bool) (s : St) (a a2 : Act) (w : World), k ≤ (chI ops iq).length → (∀ m i, (chI ops iq)[m]? = some i → listed.getD i true = decide (m < k)) → Ag (MissQ ops iq listed) a a2 → RelE β s a2 w →
      opsM P ops (LL.drop k) (((chI ops iq).drop k).filterMap fun i => ops[i]?) s K → (∀ j, j < ops.size → listed.getD j true = true) → Q .normal a w := fun k listed s a a2 w hk hl hag hr hop hall => by
    have hke : k = (chI ops iq).length := by
      rcases Nat.lt_or_ge k (chI ops iq).length with h | h
      · have h0 : (chI ops iq)[k]? = some (chI ops iq)[k] := by simp [h]
        have h1 := hl k _ h0
        rw [hall _ (chI_at h0).1] at h1
        simp at h1
      · omega
    subst hke
    rw [List.drop_of_length_le (l := chI ops iq) (by simp)] at hop
    refine hn s a w (by cases hd : LL.drop (chI ops iq).length <;> (rw [hd] at hop; exact hop)) (hag.rel (fun t ⟨j, o, hj, hu, ho, _⟩ => ?_) hr)
    rw [hall j (Array.getElem?_eq_some_iff.1 ho).1] at hu
    cases hu
  intro fuel
  induction fuel with
  | zero =>
    intro k listed s a a2 w hk hsz hcl hl hf hag hr hsol hop
    have hall : ∀ j, j < ops.size → listed.getD j true = true := fun j hj => by
      cases hl : listed.getD j true with
      | true => rfl
      | false =>
        have : j ∈ (List.range ops.size).filter fun j => !listed.getD j true := List.mem_filter.2 ⟨List.mem_range.2 hj, by simp [hl]⟩
        have := List.length_pos_of_mem this
        omega
    refine ⟨?_, hfin k listed s a a2 w hk hl hag hr hop hall⟩
    apply List.eq_nil_iff_forall_not_mem.2
    intro j hj
    obtain ⟨h1, o, ho, _⟩ := mem_ready.1 hj
    rw [hall j (Array.getElem?_eq_some_iff.1 ho).1] at h1
    cases h1
  | succ fuel ih =>
    intro k listed s a a2 w hk hsz hcl hl hf hag hr hsol hop
    refine ⟨fun hnil => hfin k listed s a a2 w hk hl hag hr hop fun j hj => ?_, fun i hi => ?_⟩
    · cases hu : listed.getD j true with
      | true => rfl
      | false =>
        obtain ⟨j1, hj1, _⟩ := ready_least hw hsz j hj hu
        rw [hnil] at hj1; cases hj1
    · obtain ⟨hui, o, ho, hall⟩ := mem_ready.1 hi
      have hil : i < ops.size := (Array.getElem?_eq_some_iff.1 ho).1
      have hcount := count_set hil hsz hui hf
      have hcl' := hcl.set ho hall
      have hnone : ∀ {j : Nat}, j < ops.size → listed.getD j true = false → listed.getD j false = true → False := fun {j} hj h1 h2 => by
        have : j < listed.size := by omega
        simp [this] at h1 h2
        rw [h1] at h2; cases h2
      cases hin : iq i with
      | true =>
        obtain ⟨hpl, d, r, hd, hdN, hG, hsl⟩ := hsol i o hin hui ho
        have hlk : ∀ t ∈ o.looksAt ops, ¬ MissQ ops iq listed t := fun t ht ⟨j, q, hj, hu, hq, hdq⟩ => by
          obtain ⟨e, he, hb, hon⟩ := hlooks i o hin ho t ht j q hj hq hdq
          exact hnone (Array.getElem?_eq_some_iff.1 hq).1 hu (hon ▸ hall e he hb)
        obtain ⟨ω, κ, hr'⟩ := id hr
        have key : ∀ u, RT w ω κ s.σ r u → wpAny P .any ops Q fuel (listed.setIfInBounds i true) (a.put (some d) u) w := fun u hu => by
          refine ih k _ s _ (a2.put (some d) u) w hk (by simp [hsz]) hcl' (fun m c hc => ?_) hcount ?_ ?_ (fun j q hj hq hqo => ?_) hop
          · rw [getD_set_ne true fun e => by have := (chI_at hc).2; rw [← e, hin] at this; cases this]; exact hl m c hc
          · refine hag.less (fun t ⟨j, q, hj, hu, hq, hdq⟩ => ?_) u (by rw [← hag.2.1, hr'.size]; exact hdN)
            by_cases hij : i = j
            · subst hij
              have : q = o := Option.some.inj (hq.symm.trans ho)
              subst this
              rw [hd] at hdq
              exact .inr (Option.some.inj hdq).symm
            · exact .inl ⟨j, q, hj, by rw [getD_set_ne true hij]; exact hu, hq, hdq⟩
          · refine RelE.weak ⟨ω, κ, hr'.put hdN hu⟩ ⟨rfl, fun t x hx => ?_, fun _ _ h => h⟩
            rw [get_cons]
            split
            · rename_i e; subst e; rw [hG] at hx; exact hx
            · exact hx
          · refine hsol j q hj ?_ hqo
            by_cases hij : i = j
            · subst hij
              have : i < listed.size := by omega
              simp [this] at hq
            · rw [getD_set_ne true hij] at hq; exact hq
        unfold wpOp
        simp only [ho]
        rw [hag.wanted hlk]
        rcases hsl with ⟨hg, hq⟩ | ⟨hg, rfl⟩
        · rw [if_pos (gdOf_ok hr'.env hg)]
          obtain ⟨u, g1, g2⟩ := ev1_ok (P := P) (o := o) hr'.rs hr'.env (plain_ev hpl hq)
          refine .inl ?_
          unfold Oper.wp
          rw [execOp_congr o (fun cs b e => by rw [e] at hpl; simp [plainB] at hpl) (hag.eval hlk), g1, Oper.upon_value, hd]
          exact key u g2
        · have hf' := gdOf_ok hr'.env hg
          rw [if_neg (by rw [hf']; simp), hd]
          exact key _ ⟨[], rfl, rfl, by simp⟩
      | false =>
        obtain ⟨m, hm⟩ := chI_mem hil hin
        have hmk : m = k := by
          have h1 := hl m i hm
          rw [hui] at h1
          have h1 : ¬ m < k := by simpa using h1.symm
          rcases Nat.lt_or_ge k m with h | h
          · have hp : (chI ops iq)[m - 1]? = some ((chI ops iq)[m - 1]'(by have := (List.getElem?_eq_some_iff.1 hm).1; omega)) := by
              rw [List.getElem?_eq_getElem]
            have hbf := hprev (m - 1) i _ (by rw [show m - 1 + 1 = m by omega]; exact hm) hp
            have h2 := bef_ok hcl f i _ o ho hall hbf
            have h3 := hl (m - 1) _ hp
            have h4 : m - 1 < k := by
              have : listed.getD ((chI ops iq)[m - 1]'(by have := (List.getElem?_eq_some_iff.1 hm).1; omega)) true = true := by
                cases h5 : listed.getD ((chI ops iq)[m - 1]'(by have := (List.getElem?_eq_some_iff.1 hm).1; omega)) true with
                | true => rfl
                | false => exact (hnone (chI_at hp).1 h5 h2).elim
              rw [this] at h3
              simpa using h3.symm
            omega
          · omega
        subst hmk
        obtain ⟨hgu, hns', hlook, hlate⟩ := hchain m i o hm ho
        have hlk : ∀ t ∈ o.looksAt ops, ¬ MissQ ops iq listed t := fun t ht ⟨j, q, hj, hu, hq, hdq⟩ => by
          obtain ⟨e, he, hb, hon⟩ := hlook t ht j q hj hq hdq
          exact hnone (Array.getElem?_eq_some_iff.1 hq).1 hu (hon ▸ hall e he hb)
        have hdrop : ((chI ops iq).drop m).filterMap (fun i => ops[i]?) = o :: ((chI ops iq).drop (m + 1)).filterMap fun i => ops[i]? := by
          have hlt := (List.getElem?_eq_some_iff.1 hm).1
          rw [List.drop_eq_getElem_cons hlt, (List.getElem?_eq_some_iff.1 hm).2, List.filterMap_cons, ho]
        rw [hdrop] at hop
        have hop : wpO P o s fun s' => solI P ops s' ((LL.drop m).headD []) ∧ opsM P ops (LL.drop m).tail (((chI ops iq).drop (m + 1)).filterMap fun i => ops[i]?) s' K := by
          cases hd : LL.drop m <;> (rw [hd] at hop; exact hop)
        have hhd : (LL.drop m).headD [] = LL.getD m [] := by
          rw [List.headD_eq_head?_getD, List.head?_drop]; rfl
        rw [hhd, List.tail_drop] at hop
        unfold wpOp
        simp only [ho]
        rw [if_pos (by simp [Region.wanted, hgu])]
        have hsim := wp_sim (Q := Q) hns' hlk hag (wpO_ok (next := fun a' w' => ∃ s', (solI P ops s' (LL.getD m []) ∧ opsM P ops (LL.drop (m + 1)) (((chI ops iq).drop (m + 1)).filterMap fun i => ops[i]?) s' K) ∧ RelE β s' a' w') (Q := fun e _ w => ∀ a, Q e a w) hop hr fun s' a' w' h1 h2 => ⟨s', h1, h2⟩)
        refine .inl (Oper.wp_mono (fun a1 w1 h => ?_) hsim)
        obtain ⟨a3, hag3, s', ⟨hso, hK⟩, hr3⟩ := h
        have hmiss : ∀ {j : Nat}, iq j = true → (listed.setIfInBounds i true).getD j true = listed.getD j true := fun {j} hj => getD_set_ne true fun e => by rw [e, hj] at hin; cases hin
        refine ih (m + 1) _ s' a1 a3 w1 (by have := (List.getElem?_eq_some_iff.1 hm).1; omega) (by simp [hsz]) hcl' (fun m' c hc => ?_) hcount ⟨hag3.1, hag3.2.1, fun t ht => hag3.2.2 t fun ⟨j, q, hj, hu, hq⟩ => ht ⟨j, q, hj, by rw [hmiss hj]; exact hu, hq⟩⟩ hr3 (fun j q hj hu hq => ?_) hK
        · by_cases hic : i = c
          · subst hic
            have := chI_inj hm hc
            subst this
            simp [hsz, hil]
          · rw [getD_set_ne true hic, hl m' c hc]
            have : m' ≠ m := fun e => hic (by subst e; exact Option.some.inj (hm.symm.trans hc))
            simp only [decide_eq_decide]; omega
        · rw [hmiss hj] at hu
          rcases hlate j q hj hq with h1 | ⟨h1, h2⟩
          · exact (hnone (Array.getElem?_eq_some_iff.1 hq).1 hu (bef_ok hcl f i j o ho hall h1)).elim
          · exact ⟨h1, solE_ok h1 (solI_mem hq hso h2)⟩

theorem MixQ.set {ops : Array Oper} {iq : Nat → Bool} {i d : Nat} {L : Array Bool} {F : Env} {o : Oper} {r : TV} (hmix : MixQ ops iq L E F E') (ho : ops[i]? = some o) (hin : iq i = true) (hsz : L.size = ops.size) (hd : o.dst = some d) (hF : get F d = some r) :
    MixQ ops iq (L.setIfInBounds i true) E F ((d, r) :: E') := fun t => by
  have hil : i < ops.size := (Array.getElem?_eq_some_iff.1 ho).1
  have hset : (L.setIfInBounds i true).getD i false = true := by simp [hsz, hil]
  by_cases htd : t = d
  · subst htd
    exact ⟨fun _ => by rw [get_cons, if_pos rfl, hF], fun h => absurd ⟨i, o, hin, hset, ho, hd⟩ h⟩
  · have hiff : WroteQ ops iq (L.setIfInBounds i true) t ↔ WroteQ ops iq L t := by
      constructor
      · rintro ⟨j, q, h1, h2, h3, h4⟩
        by_cases hij : i = j
        · subst hij
          have : q = o := Option.some.inj (h3.symm.trans ho)
          subst this
          rw [hd] at h4
          exact absurd (Option.some.inj h4).symm htd
        · exact ⟨j, q, h1, by rwa [getD_set_ne false hij] at h2, h3, h4⟩
      · rintro ⟨j, q, h1, h2, h3, h4⟩
        by_cases hij : i = j
        · subst hij; exact ⟨i, q, h1, hset, h3, h4⟩
        · exact ⟨j, q, h1, by rw [getD_set_ne false hij]; exact h2, h3, h4⟩
    rw [get_cons, if_neg htd, hiff]
    exact hmix t
theorem MixQ.looks {ops : Array Oper} {iq : Nat → Bool} {f i : Nat} {LL : List (List Nat)} {L : Array Bool} {F : Env} {o : Oper} (hb : LQ ops iq f LL) (hout : ∀ t, (∀ o ∈ quO ops iq, o.dst ≠ some t) → get F t = get E t) (hmix : MixQ ops iq L E F E') (ho : ops[i]? = some o) (hin : iq i = true)
    (hall : ∀ e ∈ o.after, Region.binds .any e = true → iq e.on = true → L.getD e.on false = true) : ∀ t ∈ o.looksAt ops, get F t = get E' t := fun t ht => by
  by_cases hwr : WroteQ ops iq L t
  · exact ((hmix t).1 hwr).symm
  · rw [(hmix t).2 hwr, hout t fun q hq he => ?_]
    obtain ⟨j, hj, hj'⟩ := mem_quO.1 hq
    obtain ⟨e, he1, hbd, hon⟩ := hb.looks i o hin ho t ht j q hj hj' he
    exact hwr ⟨j, q, hj, by rw [← hon]; exact hall e he1 hbd (by rw [hon]; exact hj), hj', he⟩
theorem MixQ.full {ops : Array Oper} {iq : Nat → Bool} {L : Array Bool} {F : Env} (hout : ∀ t, (∀ o ∈ quO ops iq, o.dst ≠ some t) → get F t = get E t) (hmix : MixQ ops iq L E F E') (hall : ∀ j, j < ops.size → iq j = true → L.getD j false = true) : ∀ t, get E' t = get F t := fun t => by
  by_cases hwr : WroteQ ops iq L t
  · exact (hmix t).1 hwr
  · rw [(hmix t).2 hwr, hout t fun q hq he => hwr ?_]
    obtain ⟨j, hj, hj'⟩ := mem_quO.1 hq
    exact ⟨j, q, hj, hall j (Array.getElem?_eq_some_iff.1 hj').1 hj, hj', he⟩
/-- The missing reads, read at once. -/
theorem virtQ {ops : Array Oper} {iq : Nat → Bool} {f : Nat} {LL : List (List Nat)} {listed : Array Bool} {F : Env} (hb : LQ ops iq f LL) (hsz : listed.size = ops.size) (hout : ∀ t, (∀ o ∈ quO ops iq, o.dst ≠ some t) → get F t = get s.E t)
    (hsol : ∀ i o, iq i = true → ops[i]? = some o → SolX P ops s.σ s.N F o) (hpl : ∀ i o, iq i = true → listed.getD i true = false → ops[i]? = some o → plainB o.op = true) (hmix : MixQ ops iq listed s.E F E') (hr : RelE β ⟨s.N, E', s.σ⟩ a w) :
    ∃ a2, Ag (MissQ ops iq listed) a a2 ∧ RelE β ⟨s.N, F, s.σ⟩ a2 w := by
  have step : ∀ k, k ≤ ops.size → ∃ L E2 a2, L.size = ops.size ∧ (∀ j, j < k → iq j = true → L.getD j false = true) ∧ (∀ j, listed.getD j false = true → L.getD j false = true) ∧ MixQ ops iq L s.E F E2 ∧ Ag (MissQ ops iq listed) a a2 ∧ RelE β ⟨s.N, E2, s.σ⟩ a2 w := by
    intro k
    induction k with
    | zero => intro _; exact ⟨listed, E', a, hsz, fun j hj => by omega, fun _ h => h, hmix, ⟨rfl, rfl, fun _ _ => rfl⟩, hr⟩
    | succ k ih =>
      intro hk
      obtain ⟨L, E2, a2, h1, h2, h3, h4, h5, h6⟩ := ih (by omega)
      have same : (iq k = true → L.getD k false = true) → ∃ L E2 a2, L.size = ops.size ∧ (∀ j, j < k + 1 → iq j = true → L.getD j false = true) ∧ (∀ j, listed.getD j false = true → L.getD j false = true) ∧ MixQ ops iq L s.E F E2 ∧ Ag (MissQ ops iq listed) a a2 ∧ RelE β ⟨s.N, E2, s.σ⟩ a2 w := fun hl =>
        ⟨L, E2, a2, h1, fun j hj hq => by
          rcases Nat.lt_or_ge j k with h | h
          · exact h2 j h hq
          · obtain rfl : j = k := by omega
            exact hl hq, h3, h4, h5, h6⟩
      cases hkq : iq k with
      | false => exact same fun h => by rw [hkq] at h; cases h
      | true =>
        cases hl : L.getD k false with
        | true => exact same fun _ => hl
        | false =>
          have hkl : k < ops.size := by omega
          have ho : ops[k]? = some ops[k] := by simp [hkl]
          generalize ops[k] = o at ho
          have hu : listed.getD k true = false := by
            cases h : listed.getD k false with
            | true => rw [h3 k h] at hl; cases hl
            | false =>
              have : k < listed.size := by omega
              simpa [this] using h
          obtain ⟨d, r, hd, hdN, hF, hsl⟩ := hsol k o hkq ho
          have hall : ∀ e ∈ o.after, Region.binds .any e = true → iq e.on = true → L.getD e.on false = true := fun e he hbd hq => h2 e.on ((waitB_spec hb.back ho).1 e he hbd) hq
          have hag := h4.looks hb hout ho hkq hall
          obtain ⟨ω, κ, hr'⟩ := id h6
          have key : ∀ u, RT w ω κ s.σ r u → ∃ L E2 a2, L.size = ops.size ∧ (∀ j, j < k + 1 → iq j = true → L.getD j false = true) ∧ (∀ j, listed.getD j false = true → L.getD j false = true) ∧ MixQ ops iq L s.E F E2 ∧ Ag (MissQ ops iq listed) a a2 ∧ RelE β ⟨s.N, E2, s.σ⟩ a2 w := fun u hu' => by
            refine ⟨L.setIfInBounds k true, (d, r) :: E2, a2.put (some d) u, by simp [h1], fun j hj hq => ?_, fun j hj => getD_set_true (h3 j hj), h4.set ho hkq h1 hd hF, h5.virt ⟨k, o, hkq, hu, ho, hd⟩ u, ⟨ω, κ, hr'.put hdN hu'⟩⟩
            rcases Nat.lt_or_ge j k with h | h
            · exact getD_set_true (h2 j h hq)
            · obtain rfl : j = k := by omega
              simp [h1, hkl]
          rcases hsl with ⟨hg, hq⟩ | ⟨hg, rfl⟩
          · obtain ⟨u, g1, g2⟩ := ev1_ok (P := P) (o := o) hr'.rs hr'.env (plain_ev (hpl k o hkq hu ho) (qvX_congr (looks_opnd hag) hq))
            exact key u g2
          · exact key undef ⟨[], rfl, rfl, by simp⟩
  obtain ⟨L, E2, a2, h1, h2, h3, h4, h5, h6⟩ := step ops.size (Nat.le_refl _)
  exact ⟨a2, h5, h6.weak ⟨rfl, fun t x hx => by rw [h4.full hout h2]; exact hx, fun _ _ h => h⟩⟩

theorem head_anyQ {ops : Array Oper} {iq : Nat → Bool} {f : Nat} {LL : List (List Nat)} {Q : Exit → Act → World → Prop} {K : St → Prop} {F : Env} (hb : LQ ops iq f LL)
    (hout : ∀ t, (∀ o ∈ quO ops iq, o.dst ≠ some t) → get F t = get s.E t) (hsol : ∀ i o, iq i = true → ops[i]? = some o → SolX P ops s.σ s.N F o)
    (hop : opsM P ops LL (chO ops iq) ⟨s.N, F, s.σ⟩ K) (hn : ∀ s' a' w', K s' → RelE β s' a' w' → Q .normal a' w') :
    ∀ (fuel : Nat) (listed : Array Bool) (E' : Env) (a : Act) (w : World), listed.size = ops.size → ClosedL ops listed → (∀ (m i : Nat), (chI ops iq)[m]? = some i → listed.getD i true = false) → (((List.range ops.size).filter fun j => !listed.getD j true).length ≤ fuel) →
      MixQ ops iq listed s.E F E' → RelE β ⟨s.N, E', s.σ⟩ a w → wpAny P .any ops Q fuel listed a w := by
  have plainly : ∀ (fuel : Nat) (listed : Array Bool) (E' : Env) (a : Act) (w : World), listed.size = ops.size → ClosedL ops listed → (∀ (m i : Nat), (chI ops iq)[m]? = some i → listed.getD i true = false) → (((List.range ops.size).filter fun j => !listed.getD j true).length ≤ fuel) →
      MixQ ops iq listed s.E F E' → RelE β ⟨s.N, E', s.σ⟩ a w → (∀ j o, iq j = true → listed.getD j true = false → ops[j]? = some o → plainB o.op = true) → wpAny P .any ops Q fuel listed a w := fun fuel listed E' a w hsz hcl ht hf hmix hr hp => by
    obtain ⟨a2, hag, hr2⟩ := virtQ hb hsz hout hsol (fun i o h1 h2 h3 => hp i o h1 h2 h3) hmix hr
    exact tail_anyQ hb hn fuel 0 listed ⟨s.N, F, s.σ⟩ a a2 w (Nat.zero_le _) hsz hcl (fun m i hm => by rw [ht m i hm]; simp) hf hag hr2 (fun j o hj hu ho => ⟨hp j o hj hu ho, hsol j o hj ho⟩) hop
  intro fuel
  induction fuel with
  | zero =>
    intro listed E' a w hsz hcl ht hf hmix hr
    refine plainly 0 listed E' a w hsz hcl ht hf hmix hr fun j o hj hu ho => ?_
    have : j ∈ (List.range ops.size).filter fun j => !listed.getD j true := List.mem_filter.2 ⟨List.mem_range.2 (Array.getElem?_eq_some_iff.1 ho).1, by simp [hu]⟩
    have := List.length_pos_of_mem this
    omega
  | succ fuel ih =>
    intro listed E' a w hsz hcl ht hf hmix hr
    by_cases hp : ∀ j o, iq j = true → listed.getD j true = false → ops[j]? = some o → plainB o.op = true
    · exact plainly (fuel + 1) listed E' a w hsz hcl ht hf hmix hr hp
    · obtain ⟨j0, q0, hj0, hun0, hq0, hnp⟩ : ∃ j o, iq j = true ∧ listed.getD j true = false ∧ ops[j]? = some o ∧ ¬ plainB o.op = true := by
        apply Classical.byContradiction
        intro hno
        exact hp fun j o h1 h2 h3 => Classical.byContradiction fun h4 => hno ⟨j, o, h1, h2, h3, h4⟩
      have hnone : ∀ {j : Nat}, j < ops.size → listed.getD j true = false → listed.getD j false = true → False := fun {j} hj h1 h2 => by
        have : j < listed.size := by omega
        simp [this] at h1 h2
        rw [h1] at h2; cases h2
      have hj0l := (Array.getElem?_eq_some_iff.1 hq0).1
      obtain ⟨j1, hj1, _⟩ := ready_least hb.back hsz j0 hj0l hun0
      refine ⟨fun h => (by rw [h] at hj1; cases hj1), fun i hi => ?_⟩
      obtain ⟨hui, o, ho, hall⟩ := mem_ready.1 hi
      have hil : i < ops.size := (Array.getElem?_eq_some_iff.1 ho).1
      have hin : iq i = true := by
        cases hiq : iq i with
        | true => rfl
        | false =>
          obtain ⟨m, hm⟩ := chI_mem hil hiq
          rcases (hb.chain m i o hm ho).2.2.2 j0 q0 hj0 hq0 with h1 | h1
          · exact (hnone hj0l hun0 (bef_ok hcl f i j0 o ho hall h1)).elim
          · exact absurd h1.1 hnp
      obtain ⟨d, r, hd, hdN, hF, hsl⟩ := hsol i o hin ho
      have hag := hmix.looks hb hout ho hin fun e he hbd _ => hall e he hbd
      have hnext : ∀ a' w', RelE β ((⟨s.N, E', s.σ⟩ : St).put d r) a' w' → wpAny P .any ops Q fuel (listed.setIfInBounds i true) a' w' := fun a' w' hr' =>
        ih _ ((d, r) :: E') a' w' (by simp [hsz]) (hcl.set ho hall) (fun m c hc => by rw [getD_set_ne true fun e => by have := (chI_at hc).2; rw [← e, hin] at this; cases this]; exact ht m c hc) (count_set hil hsz hui hf) (hmix.set ho hin hsz hd hF) hr'
      unfold wpOp
      simp only [ho]
      obtain ⟨ω, κ, hr'⟩ := id hr
      rcases hsl with ⟨hg, hq⟩ | ⟨hg, rfl⟩
      · rw [gdOf_congr hag] at hg
        rw [if_pos (gdOf_ok hr'.env hg)]
        exact .inl (qvX_ok (s := ⟨s.N, E', s.σ⟩) (qvX_congr (looks_opnd hag) hq) hd hdN hr hnext)
      · rw [gdOf_congr hag] at hg
        have hf' := gdOf_ok hr'.env hg
        rw [if_neg (by rw [hf']; simp), hd]
        exact hnext _ _ ⟨ω, κ, hr'.put hdN ⟨[], rfl, rfl, by simp⟩⟩
/-- **A region whose order is open**: 'qs': the places of what turns nothing; the others stand in a chain. -/
theorem Sm.drawQ {id : Nat} {ops : Array Oper} {K : Exit → St → Prop} {l1 l2 : List Oper} (qs : List Nat) (f : Nat) (LL : List (List Nat)) (hm : P.follows .mixedOrders = true) (hb : lateQB ops (fun i => qs.contains i) f LL = true)
    (e1 : quO ops (fun i => qs.contains i) = l1) (e2 : chO ops (fun i => qs.contains i) = l2) (h : qX P ops l1 s fun s' => opsM P ops LL l2 s' (K .normal)) : Sm P (.region id ops true) s K := fun β a w hr => by
  subst e1; subst e2
  have hl : lateB ops (quO ops fun i => qs.contains i) = true := by
    simp only [lateQB, Bool.and_eq_true] at hb
    exact hb.1.1.2
  obtain ⟨F, h1, h2, h4, h3⟩ := qX_sol h hl
  refine wp_region_any hm ?_
  have hr' : RelE β s a { w with drawn := w.drawn + 1 } := by
    obtain ⟨ω, κ, hr⟩ := hr
    exact ⟨ω, κ, hr.grown ⟨rfl, rfl, rfl, Nat.le_refl _, fun _ _ _ => rfl⟩⟩
  have hg : ∀ j, (Array.replicate ops.size false).getD j false = false := fun j => getD_replicate_false _ _
  refine head_anyQ (s := s) (F := F) (LQ.of hb) h2 (fun i o hi ho => h3 o (mem_quO.2 ⟨i, hi, ho⟩)) h1 (fun s' a' w' hk hr => ⟨s', hk, hr⟩) ops.size _ s.E a _ (by simp)
    (fun j oj hj hl => (by rw [hg] at hl; cases hl)) (fun m i hm => (by simp [(chI_at hm).1])) (Nat.le_trans (List.length_filter_le _ _) (by simp)) (fun t => ⟨fun ⟨j, o, _, hj, _⟩ => (by rw [hg] at hj; cases hj), fun _ => rfl⟩) hr'
end
end Go.VC
/- Runs through drawn regions with copies: no statement of a program. -/
set_option linter.unusedVariables false
namespace Go.VC
open Go
section
variable {P : Program}
theorem qX_nil {ops : Array Oper} {s : St} {K : St → Prop} : qX P ops [] s K = K s := rfl
theorem qX_cons {ops : Array Oper} {o : Oper} {r : List Oper} {s : St} {K : St → Prop} : qX P ops (o :: r) s K = match o.dst with
    | some d => d < s.N ∧ gdP (gdOf ops s.E o) (match o.op with
        | .call c => match c.callee with
          | .value f => match (opd s.E f).bind calleeOf, opsT s.E c.args.toList with
            | some (g, caps), some xs => fnOk P g = true ∧ CallQ P s.σ g (xs ++ caps) (fun v => qX P ops r (s.put d v) K) .mk
            | _, _ => False
          | .builtin .append => apQ P s.E s.σ c (fun v => qX P ops r (s.put d v) K) .mk
          | _ => onS (ev1 P s.E s.σ o.op) (fun v => qX P ops r (s.put d v) K) .mk
        | .buildSlice t n ps => onS (bsV P s.E t n ps) (fun ys => qX P ops r (s.put d (.c (.ik n n ys))) K) .mk
        | op => onS (ev1 P s.E s.σ op) (fun v => qX P ops r (s.put d v) K) .mk)
      (qX P ops r (s.put d (.tp [])) K) .mk .mk
    | none => False := by
  rw [qX] <;> rfl
theorem qX_congr {ops : Array Oper} {l : List Oper} {K : St → Prop} {s s' : St} (h : s = s') : qX P ops l s K = qX P ops l s' K := by rw [h]
theorem apQ_cgr {E E' : Env} {σ σ' : Sto} {c : Call} {K : TV → Prop} {t : Tg K} (h : E = E') (h' : σ = σ') : apQ P E σ c K t = apQ P E' σ' c K t := by rw [h, h']
attribute [congr] qX_congr apQ_cgr
/-- How many operations of a drawn region may stand in any order; which of them allocates, and into what. -/
structure Dx (n m d : Nat) : Prop where
theorem Sm.drawXK {s : St} {id n m d : Nat} (_ : Dx n m d) {ops : Array Oper} {K : Exit → St → Prop} {l1 l2 : List Oper} (hm : P.follows .mixedOrders = true) (hb : drawXB ops n m d = true) (hk : (get s.σ (2 * d)).isSome = false)
    (e1 : quietL ops n m = l1) (e2 : restL ops n m = l2) (h : qX P ops l1 s fun s' => opsW P ops l2 s' (K .normal)) : Sm P (.region id ops true) s K := Sm.drawX n m d hm hb hk e1 e2 h
theorem opsM_nil {ops : Array Oper} {LL : List (List Nat)} {s : St} {K : St → Prop} : opsM P ops LL [] s K = K s := by cases LL <;> rfl
theorem opsM_cons {ops : Array Oper} {L : List Nat} {LL : List (List Nat)} {o : Oper} {r : List Oper} {s : St} {K : St → Prop} : opsM P ops (L :: LL) (o :: r) s K = wpO P o s fun s' => solI P ops s' L ∧ opsM P ops LL r s' K := rfl
theorem opsM_congr {ops : Array Oper} {LL : List (List Nat)} {l : List Oper} {K : St → Prop} {s s' : St} (h : s = s') : opsM P ops LL l s K = opsM P ops LL l s' K := by rw [h]
theorem solI_nil {ops : Array Oper} {s : St} : solI P ops s [] = True := rfl
theorem solI_cons {ops : Array Oper} {s : St} {j : Nat} {r : List Nat} : solI P ops s (j :: r) = ((match ops[j]? with | some o => solE P ops s o | none => True) ∧ solI P ops s r) := rfl
attribute [congr] opsM_congr
theorem goMX {ops : Array Oper} {LL : List (List Nat)} {l : List Oper} {s : St} {K : St → Prop} (h : opsM P ops LL l s K) : opsM P ops LL l s K := h
theorem goSI {ops : Array Oper} {s : St} {L : List Nat} {A : Prop} (h : solI P ops s L ∧ A) : solI P ops s L ∧ A := h
/-- How many operations of a drawn region turn nothing; over how many edges it is asked which of them are waited for; which may come late. -/
structure Dm (n f : Nat) (LL : List (List Nat)) : Prop where
theorem Sm.drawMK {s : St} {id n f : Nat} {LL : List (List Nat)} (_ : Dm n f LL) {ops : Array Oper} {K : Exit → St → Prop} {l1 l2 : List Oper} (hm : P.follows .mixedOrders = true) (hb : lateMB ops n f LL = true) (e1 : ops.toList.take n = l1) (e2 : ops.toList.drop n = l2)
    (h : qX P ops l1 s fun s' => opsM P ops LL l2 s' (K .normal)) : Sm P (.region id ops true) s K := Sm.drawM n f LL hm hb e1 e2 h
/-- The places of what turns nothing; those of the chain; over how many edges it is asked; which may come late. -/
structure Dq (qs cs : List Nat) (f : Nat) (LL : List (List Nat)) : Prop where
theorem Sm.drawQK {s : St} {id f : Nat} {qs cs : List Nat} {LL : List (List Nat)} (_ : Dq qs cs f LL) {ops : Array Oper} {K : Exit → St → Prop} {l1 l2 : List Oper} (hm : P.follows .mixedOrders = true)
    (hb : (lateQB ops (fun i => qs.contains i) f LL && decide (chI ops (fun i => qs.contains i) = cs) && decide (((List.range ops.size).filter fun i => qs.contains i) = qs)) = true) (e1 : qs.filterMap (fun i => ops[i]?) = l1) (e2 : cs.filterMap (fun i => ops[i]?) = l2)
    (h : qX P ops l1 s fun s' => opsM P ops LL l2 s' (K .normal)) : Sm P (.region id ops true) s K := by
  simp only [Bool.and_eq_true, decide_eq_true_eq] at hb
  obtain ⟨⟨h1, h2⟩, h3⟩ := hb
  exact Sm.drawQ qs f LL hm h1 (by rw [quO, h3, e1]) (by rw [chO, h2, e2]) h
theorem goQX {ops : Array Oper} {l : List Oper} {s : St} {K : St → Prop} (h : qX P ops l s K) : qX P ops l s K := h
end
/-- Run on, through drawn regions with copies and one allocation. -/
theorem RunX {F G R1 R2 R3 R4 R5 R6 R7 R8 R9 : Prop} (f : F) (r : Lf R1 (Lf R2 (Lf R3 (Lf R4 (Lf R5 (Lf R6 (Lf R7 (Lf R8 R9))))))))
    (d : F → Bx R1 → Bx R2 → Bx R3 → Bx R4 → Bx R5 → Bx R6 → Bx R7 → Bx R8 → Bx R9 → Lf G (Lf (Dd R1) (Lf (Dd R2) (Lf (Dd R3) (Lf (Dd R4) (Lf (Dd R5) (Lf (Dd R6) (Lf (Dd R7) (Lf (Dd R8) (Dd R9))))))))) := by
      intro fx r1 r2 r3 r4 r5 r6 r7 r8 r9
      refine Lf.mk ?_ ?_
      · repeat' (first
          | ((with_reducible refine Cont.keepK kt ?_); try simp only [keepE, memN, delN, ↓reduceIte, Nat.reduceEqDiff, Bool.false_eq_true])
          | (with_reducible refine Sm.seq ?_)
          | (with_reducible refine Sm.block ?_)
          | ((first | (with_reducible refine Sm.skip ?_) | (with_reducible refine Sm.exit ?_) | (with_reducible refine Sm.ret ?_)); try simp only [Kn, Kb, ↓reduceIte, Nat.reduceEqDiff])
          | (((first | (with_reducible refine Sm.region ?_) | (with_reducible refine Sm.drawXK dx mixed (by decide +kernel) (by simp only [get_cons, get_nil, ↓reduceIte, Nat.reduceMul, Nat.reduceEqDiff, Option.isSome_none, Option.isSome_some]) (by (simp only [quietL, List.take_succ_cons, List.take_zero, List.eraseIdx_cons_succ, List.eraseIdx_cons_zero, List.eraseIdx_nil]); exact rfl) (by (simp only [restL, Nat.reduceLT, ↓reduceIte, List.take_succ_cons, List.take_zero, List.drop_succ_cons, List.drop_zero, List.nil_append, List.cons_append]); exact rfl) ?_) | (with_reducible refine Sm.drawQK dq mixed (by decide +kernel) (by (simp only [List.filterMap_cons, List.filterMap_nil, List.getElem?_toArray, List.getElem?_cons_succ, List.getElem?_cons_zero]); exact rfl) (by (simp only [List.filterMap_cons, List.filterMap_nil, List.getElem?_toArray, List.getElem?_cons_succ, List.getElem?_cons_zero]); exact rfl) ?_) | (with_reducible refine Sm.drawMK dm mixed (by decide +kernel) (by (simp only [List.take_succ_cons, List.take_zero, List.drop_succ_cons, List.drop_zero]); exact rfl) (by (simp only [List.take_succ_cons, List.take_zero, List.drop_succ_cons, List.drop_zero]); exact rfl) ?_) | (with_reducible refine Sm.drawK dn mixed (by decide +kernel) (by (simp only [List.take_succ_cons, List.take_zero, List.drop_succ_cons, List.drop_zero]); exact rfl) (by (simp only [List.take_succ_cons, List.take_zero, List.drop_succ_cons, List.drop_zero]); exact rfl) ?_) | (with_reducible refine Sm.drawT mixed (by decide +kernel) ?_) | (with_reducible refine RetK.any kz (by simp) ?_ ?_) | (with_reducible refine Sm.test ?_) | (with_reducible refine goOps ?_) | (with_reducible refine goDW ?_) | (with_reducible refine goQW ?_) | (with_reducible refine goQX ?_) | (with_reducible refine goMX ?_) | (with_reducible refine goSI ?_) | (with_reducible refine goOn ?_) | (with_reducible refine goGd ?_)) <;> simp -dsimp (maxSteps := 2000000) (disch := omega) only [vs, ↓Option.bind_some, ev1, ofV, scalarB, Kn, Kb, calleeOf, evLoad, ptr, evField, evFieldAddr, shift, ↓pt_at, ↓pt_at1, evExtract, evBin, evLen, evConv, cellsT, noS, Cell.has, Cell.hasN, Cell.anyN, toIV, toIV0, toIVs, ownC, srcM, Ob.own, Ob.esz, allSc, nilK, lenC, ownCell, isPtr, ptrNil, frzO, Cell.frz, Cell.keys, ↓reduceIte, reduceCtorEq, Nat.reduceEqDiff, Nat.reduceBEq, Nat.reduceBNe, Nat.reduceAdd, Nat.reduceMul, Nat.reduceSub, Nat.reduceLT, Nat.reduceLeDiff, Nat.reducePow, Int.reduceLT, Int.reduceLE, Int.reduceEq, Int.reduceNe, quietB, Nat.reduceMod, Int.reduceToNat, ne_eq, eq_self, exists_const, evBytes, byRow, byL, byStr_size, ifsz, ByteArray.size_append, Option.none_or, Option.some_or, evLook, keyD, qX_nil, qX_cons, apQ, opsM_nil, opsM_cons, solI_nil, solI_cons, solE, Option.isSome_some, true_or, or_true, true_and, allSc_eS, allSc_eI, flat_len', Nat.mul_one, Nat.zero_add, List.nil_append, List.append_nil, fcx, fx]); try (with_reducible refine ⟨fun hq => ?_, fun hq => ?_⟩ <;> (try simp only [vh, ne_eq] at hq)))
          | ((with_reducible refine gdP_split (fun hq => ?_) (fun hq => ?_)) <;> ((try simp only [vh, ne_eq] at hq); simp -dsimp (maxSteps := 2000000) (disch := omega) only [vs, ↓Option.bind_some, ev1, ofV, scalarB, Kn, Kb, calleeOf, evLoad, ptr, evField, evFieldAddr, shift, ↓pt_at, ↓pt_at1, evExtract, evBin, evLen, evConv, cellsT, noS, Cell.has, Cell.hasN, Cell.anyN, toIV, toIV0, toIVs, ownC, srcM, Ob.own, Ob.esz, allSc, nilK, lenC, ownCell, isPtr, ptrNil, frzO, Cell.frz, Cell.keys, ↓reduceIte, reduceCtorEq, Nat.reduceEqDiff, Nat.reduceBEq, Nat.reduceBNe, Nat.reduceAdd, Nat.reduceMul, Nat.reduceSub, Nat.reduceLT, Nat.reduceLeDiff, Nat.reducePow, Int.reduceLT, Int.reduceLE, Int.reduceEq, Int.reduceNe, quietB, Nat.reduceMod, Int.reduceToNat, ne_eq, eq_self, exists_const, evBytes, byRow, byL, byStr_size, ifsz, ByteArray.size_append, Option.none_or, Option.some_or, evLook, keyD, qX_nil, qX_cons, apQ, opsM_nil, opsM_cons, solI_nil, solI_cons, solE, Option.isSome_some, true_or, or_true, true_and, allSc_eS, allSc_eI, flat_len', Nat.mul_one, Nat.zero_add, List.nil_append, List.append_nil, fcx, hq, fx]))
          | (with_reducible refine ⟨(by first | omega | (simp only [maxLen]; omega)), ?_⟩)
          | fail)
        all_goals ((repeat revert hq); first | (with_reducible exact r1.h) | (with_reducible exact r2.h) | (with_reducible exact r3.h) | (with_reducible exact r4.h) | (with_reducible exact r5.h) | (with_reducible exact r6.h) | (with_reducible exact r7.h) | (with_reducible exact r8.h) | (with_reducible exact r9.h))
      · (refine ⟨?_, ?_, ?_, ?_, ?_, ?_, ?_, ?_, ?_⟩) <;> first | (with_reducible exact Dd.t) | (with_reducible exact Dd.mk)) : G :=
  (d f ⟨r.l⟩ ⟨r.r.l⟩ ⟨r.r.r.l⟩ ⟨r.r.r.r.l⟩ ⟨r.r.r.r.r.l⟩ ⟨r.r.r.r.r.r.l⟩ ⟨r.r.r.r.r.r.r.l⟩ ⟨r.r.r.r.r.r.r.r.l⟩ ⟨r.r.r.r.r.r.r.r.r⟩).l
end Go.VC
/- Blocks that are known: calls of the law's function, calls of the library's: no statement of a program. -/
set_option linter.unusedSimpArgs false
set_option linter.unusedVariables false
namespace Go.VC
open Go Go.RowKit
theorem oddS : ∀ (σ : Sto), (σ.all fun p => p.1 % 2 == 1) = true → ∀ k, (get σ k).isSome = true → k % 2 = 1
  | [], _, k, hk => by rw [get_nil] at hk; cases hk
  | (j, o) :: r, h, k, hk => by
    simp only [List.all_cons, Bool.and_eq_true, beq_iff_eq] at h
    rw [get_cons] at hk
    split at hk
    · rename_i e; rw [e]; exact h.1
    · exact oddS r h.2 k hk
/-- A law's function that reads a known block. -/
theorem law_callG {P : Program} {g : FuncId} {args : List TV} {u : Value} {b : Nat} {x : Obj} {σ1 : Sto} (h : FnS P g [(1, .gl b x)] args σ1 (.c (.im (.sc u)))) {W : World} (hx : W.heap[b]? = some x) {vs : List Value} (hv : All2 (RP W (belowL W)) args vs) :
    Calls P g vs.toArray W fun e W' => e = .returned u ∧ Below W.heap.size W W' := by
  have hb : ∀ b k, belowL W b ≠ .ob k := fun b k => by unfold belowL; split <;> simp
  have hbl : b < W.heap.size := (Array.getElem?_eq_some_iff.1 hx).1
  refine (h W (belowL W) (fun _ => undef) vs ⟨fun k o h => ?_, fun b hb => ?_⟩ (fun b k h => absurd h (hb b k)) ?_).mono fun e W' ⟨v, ω', κ', he, ht, _, hr, _⟩ => ?_
  · rw [get_cons] at h
    split at h
    · obtain rfl := Option.some.inj h
      exact ⟨by unfold belowL; rw [if_pos hbl], hx⟩
    · rw [get_nil] at h; cases h
  · unfold belowL at hb; split at hb
    · assumption
    · exact absurd rfl hb
  · exact hv.imp fun x y _ hxy => hxy.step ⟨fun b hb => ⟨hb, rfl⟩, fun k _ => ⟨fun _ => rfl, fun o' m' ho hm => by
      rw [get_cons] at ho
      split at ho
      · obtain rfl := Option.some.inj ho; cases hm
      · rw [get_nil] at ho; cases ho⟩, fun k _ o' m' ho hm => by
      rw [get_cons] at ho
      split at ho
      · obtain rfl := Option.some.inj ho; cases hm
      · rw [get_nil] at ho; cases ho⟩
  · obtain rfl := RP_sc hr
    exact ⟨he, ht.os, ht.tape, ht.output, ht.size, fun k hk => ht.block k hk (hb k)⟩
/-- A contract of the library's: a number's text, under a known block. -/
theorem FnS.shelf1 {P : Program} {g : FuncId} {b : Nat} {x : Obj} {n : Int} {r : ByteArray} (h : ∀ w : World, w.heap[b]? = some x → Calls P g #[.int .i64 n] w fun e w' => e = .returned (.string r) ∧ ∃ k os, w' = Sort.grow (w.drewN k) os) :
    FnS P g [(1, .gl b x)] [.c (.im (.sc (.int .i64 n)))] [(1, .gl b x)] (.c (.im (.sc (.string r)))) := by
  intro w ω κ vs hS hω hvs
  have hgl : ω b = .im ∧ w.heap[b]? = some x := hS.ob 1 _ rfl
  obtain ⟨v, rfl⟩ : ∃ v, vs = [v] := by
    have := hvs.1
    match vs, this with
    | [v], _ => exact ⟨v, rfl⟩
  have hv : v = .int .i64 n := by
    have := hvs.2 0 _ v rfl rfl
    cases this with
    | im _ _ this => cases this; rfl
  subst hv
  refine (h w hgl.2).mono fun e w' ⟨he, k, os, hw⟩ => ?_
  subst hw
  have hheap : ∀ c, c < w.heap.size → (Sort.grow (w.drewN k) os).heap[c]? = w.heap[c]? := fun c hc => by
    show (w.heap ++ os)[c]? = w.heap[c]?
    rw [Array.getElem?_append_left hc]
  refine ⟨.string r, ω, κ, he, ⟨rfl, rfl, rfl, by show w.heap.size ≤ (w.heap ++ os).size; simp, fun c hc _ => hheap c hc, fun _ h => h, fun _ _ h => h⟩, ⟨fun j o hj => ?_, fun c hc => ?_⟩, .im _ _ (.sc _ rfl), fun j _ => KeyOk.refl _ _ _⟩
  · have hl : ∀ c, ω c ≠ .no → (Sort.grow (w.drewN k) os).heap[c]? = w.heap[c]? := fun c hc => hheap c (hS.dom c hc)
    exact (hS.ob j o hj).step rfl (fun c hc => ⟨hc, hl c (by rw [hc]; simp)⟩) (fun c hc => ⟨hc, hl c (by rw [hc]; simp)⟩) fun _ _ _ i _ => KeyOk.refl _ _ _
  · have := hS.dom c hc
    show c < (w.heap ++ os).size
    simp; omega
end Go.VC
/- Drawn regions in which some operations may come in any order among themselves: no statement of a program. -/
set_option linter.unusedSimpArgs false
set_option linter.unusedVariables false
namespace Go.VC
open Go Go.RowKit
section
variable {β : Base} {w w' : World} {ω ω' : Lab} {κ κ' : Nat → Value} {σ σ' : Sto} {E E' : Env} {a a' : Act} {s : St} {P : Program}
/-- An operation of the order: its place; whom it waits for; which reads may come behind it. -/
abbrev Plc := Nat × List Nat × List Nat
/-- What is left is done in every order that the edges allow. -/
def opsG (P : Program) (ops : Array Oper) : Nat → List Plc → St → (St → Prop) → Prop
  | 0, _, s, K => K s
  | n + 1, rem, s, K => ∀ c ∈ rem, (c.2.1.all fun j => rem.all fun d => d.1 != j) = true → match ops[c.1]? with
    | some o => wpO P o s fun s' => solI P ops s' c.2.2 ∧ opsG P ops n (rem.filter fun d => d.1 != c.1) s' K
    | none => False
def lateGB (ops : Array Oper) (iq : Nat → Bool) (f : Nat) (cs : List Plc) : Bool := waitB ops 0 && lateB ops (quO ops iq) &&
  ((List.range ops.size).all fun i => !iq i || match ops[i]? with
    | some o => (o.looksAt ops).all fun t => (List.range ops.size).all fun j => !iq j || match ops[j]? with
      | some q => q.dst != some t || o.after.any fun e => Region.binds .any e && e.on == j
      | none => true
    | none => true) &&
  ((List.range ops.size).all fun i => iq i || cs.any fun c => c.1 == i) &&
  cs.all fun c => !iq c.1 && (c.2.1.all fun j => befB ops f c.1 j && cs.any fun d => d.1 == j) && match ops[c.1]? with
    | some o => o.guard.isNone && (match o.op with | .select .. => false | _ => true) &&
        ((o.looksAt ops).all fun t => (List.range ops.size).all fun j => !iq j || match ops[j]? with
          | some q => q.dst != some t || o.after.any fun e => Region.binds .any e && e.on == j
          | none => true) &&
        (List.range ops.size).all fun j => !iq j || befB ops f c.1 j || ((match ops[j]? with | some q => plainB q.op | none => true) && c.2.2.contains j)
    | none => false
/-- What is known of the form. -/
structure LG (ops : Array Oper) (iq : Nat → Bool) (f : Nat) (cs : List Plc) : Prop where
  back : waitB ops 0 = true
  looks : ∀ i o, iq i = true → ops[i]? = some o → ∀ t ∈ o.looksAt ops, ∀ j q, iq j = true → ops[j]? = some q → q.dst = some t → ∃ e ∈ o.after, Region.binds .any e = true ∧ e.on = j
  cover : ∀ i, i < ops.size → iq i = false → ∃ c ∈ cs, c.1 = i
  chain : ∀ c ∈ cs, iq c.1 = false ∧ (∀ j ∈ c.2.1, befB ops f c.1 j = true) ∧ ∃ o, ops[c.1]? = some o ∧ o.guard = none ∧ (∀ cs b, o.op ≠ .select cs b) ∧ (∀ t ∈ o.looksAt ops, ∀ j q, iq j = true → ops[j]? = some q → q.dst = some t → ∃ e ∈ o.after, Region.binds .any e = true ∧ e.on = j) ∧
    ∀ j q, iq j = true → ops[j]? = some q → befB ops f c.1 j = true ∨ (plainB q.op = true ∧ j ∈ c.2.2)
theorem LG.of {ops : Array Oper} {iq : Nat → Bool} {f : Nat} {cs : List Plc} (hb : lateGB ops iq f cs = true) : LG ops iq f cs := by
  simp only [lateGB, Bool.and_eq_true] at hb
  obtain ⟨⟨⟨⟨h1, _⟩, h2⟩, hcov⟩, h3⟩ := hb
  have hedge : ∀ {o : Oper} {t j : Nat} {q : Oper}, iq j = true → ops[j]? = some q → q.dst = some t → ((List.range ops.size).all fun j => !iq j || match ops[j]? with
          | some q => q.dst != some t || o.after.any fun e => Region.binds .any e && e.on == j
          | none => true) = true → ∃ e ∈ o.after, Region.binds .any e = true ∧ e.on = j := fun {o t j q} hj hq hd h => by
    have h4 := List.all_eq_true.1 h j (List.mem_range.2 (Array.getElem?_eq_some_iff.1 hq).1)
    simp only [hj, hq, hd, Bool.not_true, Bool.false_or, Bool.or_eq_true] at h4
    rcases h4 with h4 | h4
    · simp at h4
    · obtain ⟨e, he, hb⟩ := Array.any_eq_true'.1 h4
      simp only [Bool.and_eq_true, beq_iff_eq] at hb
      exact ⟨e, he, hb.1, hb.2⟩
  refine ⟨h1, fun i o hi ho t ht j q hj hq hd => ?_, fun i hi hin => ?_, fun c hc => ?_⟩
  · have h4 := List.all_eq_true.1 h2 i (List.mem_range.2 (Array.getElem?_eq_some_iff.1 ho).1)
    simp only [hi, ho, Bool.not_true, Bool.false_or] at h4
    exact hedge hj hq hd (List.all_eq_true.1 h4 t ht)
  · have h4 := List.all_eq_true.1 hcov i (List.mem_range.2 hi)
    rw [hin, Bool.false_or] at h4
    obtain ⟨c, h5, h6⟩ := List.any_eq_true.1 h4
    exact ⟨c, h5, by simpa using h6⟩
  · have h4 := List.all_eq_true.1 h3 c hc
    simp only [Bool.and_eq_true, Bool.not_eq_true'] at h4
    obtain ⟨⟨g1, g2⟩, g3⟩ := h4
    refine ⟨g1, fun j hj => (by have := List.all_eq_true.1 g2 j hj; simp only [Bool.and_eq_true] at this; exact this.1), ?_⟩
    cases ho : ops[c.1]? with
    | none => rw [ho] at g3; cases g3
    | some o =>
      simp only [ho, Bool.and_eq_true, Option.isNone_iff_eq_none] at g3
      obtain ⟨⟨⟨k1, k2⟩, k3⟩, k4⟩ := g3
      refine ⟨o, rfl, k1, fun cs b e => (by rw [e] at k2; cases k2), fun t ht j q hj hq hd => hedge hj hq hd (List.all_eq_true.1 k3 t ht), fun j q hj hq => ?_⟩
      have h5 := List.all_eq_true.1 k4 j (List.mem_range.2 (Array.getElem?_eq_some_iff.1 hq).1)
      simp only [hj, hq, Bool.not_true, Bool.false_or, Bool.or_eq_true, Bool.and_eq_true, List.contains_eq_mem, decide_eq_true_eq] at h5
      exact h5
/-- What is left, and what is listed. -/
def LeftG (iq : Nat → Bool) (cs rem : List Plc) (listed : Array Bool) : Prop := (∀ c ∈ rem, c ∈ cs ∧ listed.getD c.1 true = false) ∧ ∀ c ∈ cs, listed.getD c.1 true = false → c ∈ rem
theorem tail_anyG {ops : Array Oper} {iq : Nat → Bool} {f : Nat} {cs : List Plc} {Q : Exit → Act → World → Prop} {K : St → Prop} (hb : LG ops iq f cs) (hn : ∀ s' a' w', K s' → RelE β s' a' w' → Q .normal a' w') :
    ∀ (fuel : Nat) (rem : List Plc) (listed : Array Bool) (s : St) (a a2 : Act) (w : World), (rem.map Prod.fst).Nodup → listed.size = ops.size → ClosedL ops listed → LeftG iq cs rem listed →
      (((List.range ops.size).filter fun j => !listed.getD j true).length ≤ fuel) → Ag (MissQ ops iq listed) a a2 → RelE β s a2 w → (∀ j o, iq j = true → listed.getD j true = false → ops[j]? = some o → plainB o.op = true ∧ SolX P ops s.σ s.N s.E o) →
      opsG P ops rem.length rem s K → wpAny P .any ops Q fuel listed a w := by
  obtain ⟨hw, hlooks, hcover, hchain⟩ := hb
  have hfin : ∀ (rem : List Plc) (listed : Array Bool) (s : St) (a a2 : Act) (w : World), LeftG iq cs rem listed → Ag (MissQ ops iq listed) a a2 → RelE β s a2 w →
      opsG P ops rem.length rem s K → (∀ j, j < ops.size → listed.getD j true = true) → Q .normal a w := fun rem listed s a a2 w hl hag hr hop hall => by
    have hke : rem = [] := by
      cases rem with
      | nil => rfl
      | cons c r =>
        have h1 := (hl.1 c List.mem_cons_self)
        obtain ⟨_, _, o, ho, _⟩ := hchain c h1.1
        rw [hall c.1 (Array.getElem?_eq_some_iff.1 ho).1] at h1
        cases h1.2
    subst hke
    refine hn s a w hop (hag.rel (fun t ⟨j, o, hj, hu, ho, _⟩ => ?_) hr)
    rw [hall j (Array.getElem?_eq_some_iff.1 ho).1] at hu
    cases hu
  intro fuel
  induction fuel with
  | zero =>
    intro rem listed s a a2 w hk hsz hcl hl hf hag hr hsol hop
    have hall : ∀ j, j < ops.size → listed.getD j true = true := fun j hj => by
      cases hl : listed.getD j true with
      | true => rfl
      | false =>
        have : j ∈ (List.range ops.size).filter fun j => !listed.getD j true := List.mem_filter.2 ⟨List.mem_range.2 hj, by simp [hl]⟩
        have := List.length_pos_of_mem this
        omega
    refine ⟨?_, hfin rem listed s a a2 w hl hag hr hop hall⟩
    apply List.eq_nil_iff_forall_not_mem.2
    intro j hj
    obtain ⟨h1, o, ho, _⟩ := mem_ready.1 hj
    rw [hall j (Array.getElem?_eq_some_iff.1 ho).1] at h1
    cases h1
  | succ fuel ih =>
    intro rem listed s a a2 w hk hsz hcl hl hf hag hr hsol hop
    refine ⟨fun hnil => hfin rem listed s a a2 w hl hag hr hop fun j hj => ?_, fun i hi => ?_⟩
    · cases hu : listed.getD j true with
      | true => rfl
      | false =>
        obtain ⟨j1, hj1, _⟩ := ready_least hw hsz j hj hu
        rw [hnil] at hj1; cases hj1
    · obtain ⟨hui, o, ho, hall⟩ := mem_ready.1 hi
      have hil : i < ops.size := (Array.getElem?_eq_some_iff.1 ho).1
      have hcount := count_set hil hsz hui hf
      have hcl' := hcl.set ho hall
      have hnone : ∀ {j : Nat}, j < ops.size → listed.getD j true = false → listed.getD j false = true → False := fun {j} hj h1 h2 => by
        have : j < listed.size := by omega
        simp [this] at h1 h2
        rw [h1] at h2; cases h2
      cases hin : iq i with
      | true =>
        obtain ⟨hpl, d, r, hd, hdN, hG, hsl⟩ := hsol i o hin hui ho
        have hlk : ∀ t ∈ o.looksAt ops, ¬ MissQ ops iq listed t := fun t ht ⟨j, q, hj, hu, hq, hdq⟩ => by
          obtain ⟨e, he, hb, hon⟩ := hlooks i o hin ho t ht j q hj hq hdq
          exact hnone (Array.getElem?_eq_some_iff.1 hq).1 hu (hon ▸ hall e he hb)
        obtain ⟨ω, κ, hr'⟩ := id hr
        have key : ∀ u, RT w ω κ s.σ r u → wpAny P .any ops Q fuel (listed.setIfInBounds i true) (a.put (some d) u) w := fun u hu => by
          have hne : ∀ c ∈ cs, i ≠ c.1 := fun c hc e => by have := (hchain c hc).1; rw [← e, hin] at this; cases this
          refine ih rem _ s _ (a2.put (some d) u) w hk (by simp [hsz]) hcl' ⟨fun c hc => ?_, fun c hc hu => ?_⟩ hcount ?_ ?_ (fun j q hj hq hqo => ?_) hop
          · rw [getD_set_ne true (hne c (hl.1 c hc).1)]; exact hl.1 c hc
          · rw [getD_set_ne true (hne c hc)] at hu; exact hl.2 c hc hu
          · refine hag.less (fun t ⟨j, q, hj, hu, hq, hdq⟩ => ?_) u (by rw [← hag.2.1, hr'.size]; exact hdN)
            by_cases hij : i = j
            · subst hij
              have : q = o := Option.some.inj (hq.symm.trans ho)
              subst this
              rw [hd] at hdq
              exact .inr (Option.some.inj hdq).symm
            · exact .inl ⟨j, q, hj, by rw [getD_set_ne true hij]; exact hu, hq, hdq⟩
          · refine RelE.weak ⟨ω, κ, hr'.put hdN hu⟩ ⟨rfl, fun t x hx => ?_, fun _ _ h => h⟩
            rw [get_cons]
            split
            · rename_i e; subst e; rw [hG] at hx; exact hx
            · exact hx
          · refine hsol j q hj ?_ hqo
            by_cases hij : i = j
            · subst hij
              have : i < listed.size := by omega
              simp [this] at hq
            · rw [getD_set_ne true hij] at hq; exact hq
        unfold wpOp
        simp only [ho]
        rw [hag.wanted hlk]
        rcases hsl with ⟨hg, hq⟩ | ⟨hg, rfl⟩
        · rw [if_pos (gdOf_ok hr'.env hg)]
          obtain ⟨u, g1, g2⟩ := ev1_ok (P := P) (o := o) hr'.rs hr'.env (plain_ev hpl hq)
          refine .inl ?_
          unfold Oper.wp
          rw [execOp_congr o (fun cs b e => by rw [e] at hpl; simp [plainB] at hpl) (hag.eval hlk), g1, Oper.upon_value, hd]
          exact key u g2
        · have hf' := gdOf_ok hr'.env hg
          rw [if_neg (by rw [hf']; simp), hd]
          exact key _ ⟨[], rfl, rfl, by simp⟩
      | false =>
        obtain ⟨c, hc, rfl⟩ := hcover i hil hin
        have hcr := hl.2 c hc hui
        obtain ⟨_, hpre, o', ho', hgu, hns', hlook, hlate⟩ := hchain c hc
        obtain rfl : o' = o := Option.some.inj (ho'.symm.trans ho)
        have hlk : ∀ t ∈ o'.looksAt ops, ¬ MissQ ops iq listed t := fun t ht ⟨j, q, hj, hu, hq, hdq⟩ => by
          obtain ⟨e, he, hb, hon⟩ := hlook t ht j q hj hq hdq
          exact hnone (Array.getElem?_eq_some_iff.1 hq).1 hu (hon ▸ hall e he hb)
        have hen : (c.2.1.all fun j => rem.all fun d => d.1 != j) = true := List.all_eq_true.2 fun j hj => List.all_eq_true.2 fun d hd => by
          have h2 := bef_ok hcl f c.1 j o' ho hall (hpre j hj)
          have h3 := (hl.1 d hd).2
          rw [bne_iff_ne]
          intro e
          subst e
          obtain ⟨_, _, q, hq, _⟩ := hchain d (hl.1 d hd).1
          exact hnone (Array.getElem?_eq_some_iff.1 hq).1 h3 h2
        have hrl : rem.length = (rem.filter fun d => d.1 != c.1).length + 1 := by
          clear hop ih hf hcount hsol hl hen
          induction rem with
          | nil => cases hcr
          | cons d r ihr =>
            rw [List.map_cons, List.nodup_cons] at hk
            by_cases e : d.1 = c.1
            · have hall' : ∀ x ∈ r, (x.1 != c.1) = true := fun x hx => bne_iff_ne.2 fun h => hk.1 (by rw [e, ← h]; exact List.mem_map_of_mem hx)
              rw [List.filter_cons_of_neg (by simp [e]), List.filter_eq_self.2 hall', List.length_cons]
            · have hcr' : c ∈ r := (List.mem_cons.1 hcr).resolve_left fun h => e (by rw [h])
              rw [List.filter_cons_of_pos (by simp [e]), List.length_cons, List.length_cons, ← ihr hk.2 hcr']
        rw [hrl] at hop
        have hop := hop c hcr hen
        simp only [ho] at hop
        unfold wpOp
        simp only [ho]
        rw [if_pos (by simp [Region.wanted, hgu])]
        have hsim := wp_sim (Q := Q) hns' hlk hag (wpO_ok (next := fun a' w' => ∃ s', (solI P ops s' c.2.2 ∧ opsG P ops (rem.filter fun d => d.1 != c.1).length (rem.filter fun d => d.1 != c.1) s' K) ∧ RelE β s' a' w') (Q := fun e _ w => ∀ a, Q e a w) hop hr fun s' a' w' h1 h2 => ⟨s', h1, h2⟩)
        refine .inl (Oper.wp_mono (fun a1 w1 h => ?_) hsim)
        obtain ⟨a3, hag3, s', ⟨hso, hK⟩, hr3⟩ := h
        have hmiss : ∀ {j : Nat}, iq j = true → (listed.setIfInBounds c.1 true).getD j true = listed.getD j true := fun {j} hj => getD_set_ne true fun e => by rw [e, hj] at hin; cases hin
        refine ih (rem.filter fun d => d.1 != c.1) _ s' a1 a3 w1 (hk.sublist (List.Sublist.map _ List.filter_sublist)) (by simp [hsz]) hcl' ⟨fun d hd => ?_, fun d hd hu => ?_⟩ hcount ⟨hag3.1, hag3.2.1, fun t ht => hag3.2.2 t fun ⟨j, q, hj, hu, hq⟩ => ht ⟨j, q, hj, by rw [hmiss hj]; exact hu, hq⟩⟩ hr3 (fun j q hj hu hq => ?_) hK
        · obtain ⟨h1, h2⟩ := List.mem_filter.1 hd
          rw [getD_set_ne true fun e => by rw [e] at h2; simp at h2]
          exact hl.1 d h1
        · by_cases e : c.1 = d.1
          · rw [e] at hu
            obtain ⟨_, _, q, hq, _⟩ := hchain d hd
            simp [hsz, (Array.getElem?_eq_some_iff.1 hq).1] at hu
          · rw [getD_set_ne true e] at hu
            exact List.mem_filter.2 ⟨hl.2 d hd hu, by simp [Ne.symm e]⟩
        · rw [hmiss hj] at hu
          rcases hlate j q hj hq with h1 | ⟨h1, h2⟩
          · exact (hnone (Array.getElem?_eq_some_iff.1 hq).1 hu (bef_ok hcl f c.1 j o' ho hall h1)).elim
          · exact ⟨h1, solE_ok h1 (solI_mem hq hso h2)⟩
theorem MixQ.looksG {ops : Array Oper} {iq : Nat → Bool} {f i : Nat} {cs : List Plc} {L : Array Bool} {F : Env} {o : Oper} (hb : LG ops iq f cs) (hout : ∀ t, (∀ o ∈ quO ops iq, o.dst ≠ some t) → get F t = get E t) (hmix : MixQ ops iq L E F E') (ho : ops[i]? = some o) (hin : iq i = true)
    (hall : ∀ e ∈ o.after, Region.binds .any e = true → iq e.on = true → L.getD e.on false = true) : ∀ t ∈ o.looksAt ops, get F t = get E' t := fun t ht => by
  by_cases hwr : WroteQ ops iq L t
  · exact ((hmix t).1 hwr).symm
  · rw [(hmix t).2 hwr, hout t fun q hq he => ?_]
    obtain ⟨j, hj, hj'⟩ := mem_quO.1 hq
    obtain ⟨e, he1, hbd, hon⟩ := hb.looks i o hin ho t ht j q hj hj' he
    exact hwr ⟨j, q, hj, by rw [← hon]; exact hall e he1 hbd (by rw [hon]; exact hj), hj', he⟩
/-- The missing reads, read at once. -/
theorem virtG {ops : Array Oper} {iq : Nat → Bool} {f : Nat} {cs : List Plc} {listed : Array Bool} {F : Env} (hb : LG ops iq f cs) (hsz : listed.size = ops.size) (hout : ∀ t, (∀ o ∈ quO ops iq, o.dst ≠ some t) → get F t = get s.E t)
    (hsol : ∀ i o, iq i = true → ops[i]? = some o → SolX P ops s.σ s.N F o) (hpl : ∀ i o, iq i = true → listed.getD i true = false → ops[i]? = some o → plainB o.op = true) (hmix : MixQ ops iq listed s.E F E') (hr : RelE β ⟨s.N, E', s.σ⟩ a w) :
    ∃ a2, Ag (MissQ ops iq listed) a a2 ∧ RelE β ⟨s.N, F, s.σ⟩ a2 w := by
  have step : ∀ k, k ≤ ops.size → ∃ L E2 a2, L.size = ops.size ∧ (∀ j, j < k → iq j = true → L.getD j false = true) ∧ (∀ j, listed.getD j false = true → L.getD j false = true) ∧ MixQ ops iq L s.E F E2 ∧ Ag (MissQ ops iq listed) a a2 ∧ RelE β ⟨s.N, E2, s.σ⟩ a2 w := by
    intro k
    induction k with
    | zero => intro _; exact ⟨listed, E', a, hsz, fun j hj => by omega, fun _ h => h, hmix, ⟨rfl, rfl, fun _ _ => rfl⟩, hr⟩
    | succ k ih =>
      intro hk
      obtain ⟨L, E2, a2, h1, h2, h3, h4, h5, h6⟩ := ih (by omega)
      have same : (iq k = true → L.getD k false = true) → ∃ L E2 a2, L.size = ops.size ∧ (∀ j, j < k + 1 → iq j = true → L.getD j false = true) ∧ (∀ j, listed.getD j false = true → L.getD j false = true) ∧ MixQ ops iq L s.E F E2 ∧ Ag (MissQ ops iq listed) a a2 ∧ RelE β ⟨s.N, E2, s.σ⟩ a2 w := fun hl =>
        ⟨L, E2, a2, h1, fun j hj hq => by
          rcases Nat.lt_or_ge j k with h | h
          · exact h2 j h hq
          · obtain rfl : j = k := by omega
            exact hl hq, h3, h4, h5, h6⟩
      cases hkq : iq k with
      | false => exact same fun h => by rw [hkq] at h; cases h
      | true =>
        cases hl : L.getD k false with
        | true => exact same fun _ => hl
        | false =>
          have hkl : k < ops.size := by omega
          have ho : ops[k]? = some ops[k] := by simp [hkl]
          generalize ops[k] = o at ho
          have hu : listed.getD k true = false := by
            cases h : listed.getD k false with
            | true => rw [h3 k h] at hl; cases hl
            | false =>
              have : k < listed.size := by omega
              simpa [this] using h
          obtain ⟨d, r, hd, hdN, hF, hsl⟩ := hsol k o hkq ho
          have hall : ∀ e ∈ o.after, Region.binds .any e = true → iq e.on = true → L.getD e.on false = true := fun e he hbd hq => h2 e.on ((waitB_spec hb.back ho).1 e he hbd) hq
          have hag := h4.looksG hb hout ho hkq hall
          obtain ⟨ω, κ, hr'⟩ := id h6
          have key : ∀ u, RT w ω κ s.σ r u → ∃ L E2 a2, L.size = ops.size ∧ (∀ j, j < k + 1 → iq j = true → L.getD j false = true) ∧ (∀ j, listed.getD j false = true → L.getD j false = true) ∧ MixQ ops iq L s.E F E2 ∧ Ag (MissQ ops iq listed) a a2 ∧ RelE β ⟨s.N, E2, s.σ⟩ a2 w := fun u hu' => by
            refine ⟨L.setIfInBounds k true, (d, r) :: E2, a2.put (some d) u, by simp [h1], fun j hj hq => ?_, fun j hj => getD_set_true (h3 j hj), h4.set ho hkq h1 hd hF, h5.virt ⟨k, o, hkq, hu, ho, hd⟩ u, ⟨ω, κ, hr'.put hdN hu'⟩⟩
            rcases Nat.lt_or_ge j k with h | h
            · exact getD_set_true (h2 j h hq)
            · obtain rfl : j = k := by omega
              simp [h1, hkl]
          rcases hsl with ⟨hg, hq⟩ | ⟨hg, rfl⟩
          · obtain ⟨u, g1, g2⟩ := ev1_ok (P := P) (o := o) hr'.rs hr'.env (plain_ev (hpl k o hkq hu ho) (qvX_congr (looks_opnd hag) hq))
            exact key u g2
          · exact key undef ⟨[], rfl, rfl, by simp⟩
  obtain ⟨L, E2, a2, h1, h2, h3, h4, h5, h6⟩ := step ops.size (Nat.le_refl _)
  exact ⟨a2, h5, h6.weak ⟨rfl, fun t x hx => by rw [h4.full hout h2]; exact hx, fun _ _ h => h⟩⟩

theorem head_anyG {ops : Array Oper} {iq : Nat → Bool} {f : Nat} {cs : List Plc} {Q : Exit → Act → World → Prop} {K : St → Prop} {F : Env} (hb : LG ops iq f cs)
    (hout : ∀ t, (∀ o ∈ quO ops iq, o.dst ≠ some t) → get F t = get s.E t) (hsol : ∀ i o, iq i = true → ops[i]? = some o → SolX P ops s.σ s.N F o)
    (hnd : (cs.map Prod.fst).Nodup) (hop : opsG P ops cs.length cs ⟨s.N, F, s.σ⟩ K) (hn : ∀ s' a' w', K s' → RelE β s' a' w' → Q .normal a' w') :
    ∀ (fuel : Nat) (listed : Array Bool) (E' : Env) (a : Act) (w : World), listed.size = ops.size → ClosedL ops listed → (∀ c ∈ cs, listed.getD c.1 true = false) → (((List.range ops.size).filter fun j => !listed.getD j true).length ≤ fuel) →
      MixQ ops iq listed s.E F E' → RelE β ⟨s.N, E', s.σ⟩ a w → wpAny P .any ops Q fuel listed a w := by
  have plainly : ∀ (fuel : Nat) (listed : Array Bool) (E' : Env) (a : Act) (w : World), listed.size = ops.size → ClosedL ops listed → (∀ c ∈ cs, listed.getD c.1 true = false) → (((List.range ops.size).filter fun j => !listed.getD j true).length ≤ fuel) →
      MixQ ops iq listed s.E F E' → RelE β ⟨s.N, E', s.σ⟩ a w → (∀ j o, iq j = true → listed.getD j true = false → ops[j]? = some o → plainB o.op = true) → wpAny P .any ops Q fuel listed a w := fun fuel listed E' a w hsz hcl ht hf hmix hr hp => by
    obtain ⟨a2, hag, hr2⟩ := virtG hb hsz hout hsol (fun i o h1 h2 h3 => hp i o h1 h2 h3) hmix hr
    exact tail_anyG hb hn fuel cs listed ⟨s.N, F, s.σ⟩ a a2 w hnd hsz hcl ⟨fun c hc => ⟨hc, ht c hc⟩, fun c hc _ => hc⟩ hf hag hr2 (fun j o hj hu ho => ⟨hp j o hj hu ho, hsol j o hj ho⟩) hop
  intro fuel
  induction fuel with
  | zero =>
    intro listed E' a w hsz hcl ht hf hmix hr
    refine plainly 0 listed E' a w hsz hcl ht hf hmix hr fun j o hj hu ho => ?_
    have : j ∈ (List.range ops.size).filter fun j => !listed.getD j true := List.mem_filter.2 ⟨List.mem_range.2 (Array.getElem?_eq_some_iff.1 ho).1, by simp [hu]⟩
    have := List.length_pos_of_mem this
    omega
  | succ fuel ih =>
    intro listed E' a w hsz hcl ht hf hmix hr
    by_cases hp : ∀ j o, iq j = true → listed.getD j true = false → ops[j]? = some o → plainB o.op = true
    · exact plainly (fuel + 1) listed E' a w hsz hcl ht hf hmix hr hp
    · obtain ⟨j0, q0, hj0, hun0, hq0, hnp⟩ : ∃ j o, iq j = true ∧ listed.getD j true = false ∧ ops[j]? = some o ∧ ¬ plainB o.op = true := by
        apply Classical.byContradiction
        intro hno
        exact hp fun j o h1 h2 h3 => Classical.byContradiction fun h4 => hno ⟨j, o, h1, h2, h3, h4⟩
      have hnone : ∀ {j : Nat}, j < ops.size → listed.getD j true = false → listed.getD j false = true → False := fun {j} hj h1 h2 => by
        have : j < listed.size := by omega
        simp [this] at h1 h2
        rw [h1] at h2; cases h2
      have hj0l := (Array.getElem?_eq_some_iff.1 hq0).1
      obtain ⟨j1, hj1, _⟩ := ready_least hb.back hsz j0 hj0l hun0
      refine ⟨fun h => (by rw [h] at hj1; cases hj1), fun i hi => ?_⟩
      obtain ⟨hui, o, ho, hall⟩ := mem_ready.1 hi
      have hil : i < ops.size := (Array.getElem?_eq_some_iff.1 ho).1
      have hin : iq i = true := by
        cases hiq : iq i with
        | true => rfl
        | false =>
          obtain ⟨c, hc, rfl⟩ := hb.cover i hil hiq
          obtain ⟨_, _, o', ho', _, _, _, hx⟩ := hb.chain c hc
          rcases hx j0 q0 hj0 hq0 with h1 | h1
          · exact (hnone hj0l hun0 (bef_ok hcl f c.1 j0 o ho hall h1)).elim
          · exact absurd h1.1 hnp
      obtain ⟨d, r, hd, hdN, hF, hsl⟩ := hsol i o hin ho
      have hag := hmix.looksG hb hout ho hin fun e he hbd _ => hall e he hbd
      have hnext : ∀ a' w', RelE β ((⟨s.N, E', s.σ⟩ : St).put d r) a' w' → wpAny P .any ops Q fuel (listed.setIfInBounds i true) a' w' := fun a' w' hr' =>
        ih _ ((d, r) :: E') a' w' (by simp [hsz]) (hcl.set ho hall) (fun c hc => by rw [getD_set_ne true fun e => by have := (hb.chain c hc).1; rw [← e, hin] at this; cases this]; exact ht c hc) (count_set hil hsz hui hf) (hmix.set ho hin hsz hd hF) hr'
      unfold wpOp
      simp only [ho]
      obtain ⟨ω, κ, hr'⟩ := id hr
      rcases hsl with ⟨hg, hq⟩ | ⟨hg, rfl⟩
      · rw [gdOf_congr hag] at hg
        rw [if_pos (gdOf_ok hr'.env hg)]
        exact .inl (qvX_ok (s := ⟨s.N, E', s.σ⟩) (qvX_congr (looks_opnd hag) hq) hd hdN hr hnext)
      · rw [gdOf_congr hag] at hg
        have hf' := gdOf_ok hr'.env hg
        rw [if_neg (by rw [hf']; simp), hd]
        exact hnext _ _ ⟨ω, κ, hr'.put hdN ⟨[], rfl, rfl, by simp⟩⟩
/-- **A region whose order is open**: 'qs': the places of what turns nothing; 'cs': the others, whom they wait for. -/
theorem Sm.drawG {id : Nat} {ops : Array Oper} {K : Exit → St → Prop} {l1 : List Oper} (qs : List Nat) (f : Nat) (cs : List Plc) (hm : P.follows .mixedOrders = true) (hb : (lateGB ops (fun i => qs.contains i) f cs && decide (((List.range ops.size).filter fun i => qs.contains i) = qs)) = true)
    (hnd : (cs.map Prod.fst).Nodup) (e1 : qs.filterMap (fun i => ops[i]?) = l1) (T : St) (h : qX P ops l1 s fun s' => opsG P ops cs.length cs s' (· = T)) (hK : K .normal T) : Sm P (.region id ops true) s K := fun β a w hr => by
  subst e1
  simp only [Bool.and_eq_true, decide_eq_true_eq] at hb
  obtain ⟨hb, hqs⟩ := hb
  have hq : quO ops (fun i => qs.contains i) = qs.filterMap (fun i => ops[i]?) := by rw [quO, hqs]
  have hl : lateB ops (quO ops fun i => qs.contains i) = true := by
    simp only [lateGB, Bool.and_eq_true] at hb
    exact hb.1.1.1.2
  rw [← hq] at h
  obtain ⟨F, h1, h2, h4, h3⟩ := qX_sol h hl
  refine wp_region_any hm ?_
  have hr' : RelE β s a { w with drawn := w.drawn + 1 } := by
    obtain ⟨ω, κ, hr⟩ := hr
    exact ⟨ω, κ, hr.grown ⟨rfl, rfl, rfl, Nat.le_refl _, fun _ _ _ => rfl⟩⟩
  have hg : ∀ j, (Array.replicate ops.size false).getD j false = false := fun j => getD_replicate_false _ _
  have hLG := LG.of hb
  refine head_anyG (s := s) (F := F) hLG h2 (fun i o hi ho => h3 o (mem_quO.2 ⟨i, hi, ho⟩)) hnd h1 (fun s' a' w' hk hr => ⟨s', hk ▸ hK, hr⟩) ops.size _ s.E a _ (by simp)
    (fun j oj hj hl => (by rw [hg] at hl; cases hl)) (fun c hc => (by obtain ⟨_, _, o, ho, _⟩ := hLG.chain c hc; simp [(Array.getElem?_eq_some_iff.1 ho).1])) (Nat.le_trans (List.length_filter_le _ _) (by simp)) (fun t => ⟨fun ⟨j, o, _, hj, _⟩ => (by rw [hg] at hj; cases hj), fun _ => rfl⟩) hr'
end
section
variable {s s' : St} {P : Program}
/-- One of what is left, then the rest. -/
def oneG (P : Program) (ops : Array Oper) (n : Nat) (c : Plc) (rem : List Plc) (s : St) (K : St → Prop) : Prop := match ops[c.1]? with
  | some o => wpO P o s fun s' => solI P ops s' c.2.2 ∧ opsG P ops n (rem.filter fun d => d.1 != c.1) s' K
  | none => False
def enG (l : List Nat) (rem : List Plc) : Bool := l.all fun j => rem.all fun d => d.1 != j
def allG (P : Program) (ops : Array Oper) (n : Nat) : List Plc → List Plc → St → (St → Prop) → Prop
  | [], _, _, _ => True
  | c :: r, rem, s, K => (enG c.2.1 rem = true → oneG P ops n c rem s K) ∧ allG P ops n r rem s K
theorem allG_mem {ops : Array Oper} {n : Nat} {rem : List Plc} {K : St → Prop} : ∀ {l : List Plc}, allG P ops n l rem s K → ∀ c ∈ l, enG c.2.1 rem = true → oneG P ops n c rem s K
  | [], _, c, hc => by cases hc
  | d :: r, h, c, hc => by
    rcases List.mem_cons.1 hc with rfl | hc
    · exact h.1
    · exact allG_mem h.2 c hc
theorem goOG {ops : Array Oper} {n : Nat} {rem : List Plc} {K : St → Prop} (h : allG P ops n rem rem s K) : opsG P ops (n + 1) rem s K := fun c hc he => allG_mem h c hc he
theorem goOZ {ops : Array Oper} {rem : List Plc} {K : St → Prop} (h : K s) : opsG P ops 0 rem s K := h
theorem goAN {ops : Array Oper} {n : Nat} {rem : List Plc} {K : St → Prop} : allG P ops n [] rem s K := trivial
theorem goAC {ops : Array Oper} {n : Nat} {c : Plc} {r rem : List Plc} {K : St → Prop} (h : (enG c.2.1 rem = true → oneG P ops n c rem s K)) (h2 : allG P ops n r rem s K) : allG P ops n (c :: r) rem s K := ⟨h, h2⟩
/-- One that must wait. -/
theorem goWt {ops : Array Oper} {n : Nat} {c : Plc} {rem : List Plc} {K : St → Prop} (h : enG c.2.1 rem = false) : enG c.2.1 rem = true → oneG P ops n c rem s K := fun h' => by rw [h] at h'; cases h'
theorem goOne {ops : Array Oper} {n : Nat} {c : Plc} {rem rem' : List Plc} {K : St → Prop} {o : Oper} (ho : ops[c.1]? = some o) (hr : (rem.filter fun d => d.1 != c.1) = rem') (h : wpO P o s fun s' => solI P ops s' c.2.2 ∧ opsG P ops n rem' s' K) : enG c.2.1 rem = true → oneG P ops n c rem s K := fun _ => by
  unfold oneG
  simp only [ho, hr]
  exact h
theorem opsG_congr {ops : Array Oper} {n : Nat} {rem : List Plc} {K : St → Prop} (h : s = s') : opsG P ops n rem s K = opsG P ops n rem s' K := by rw [h]
attribute [congr] opsG_congr
end
theorem mput_comm (f : Value → Option Value) {a b : Value} (v u : Value) (h : a ≠ b) : mput (mput f a v) b u = mput (mput f b u) a v := by
  funext x
  unfold mput
  by_cases h1 : x = a
  · subst h1; simp [h]
  · by_cases h2 : x = b
    · subst h2; simp [h1]
    · simp [h1, h2]
end Go.VC
/- Drawn regions with one allocation in any place and reads that come late: no statement of a program. -/
set_option linter.unusedSimpArgs false
set_option linter.unusedVariables false
namespace Go.VC
open Go Go.RowKit
section
variable {β : Base} {w w' : World} {ω ω' : Lab} {κ κ' : Nat → Value} {σ σ' : Sto} {E E' : Env} {a a' : Act} {s : St} {P : Program}
/-- The missing reads, read at once. -/
theorem virtY {ops : Array Oper} {iq : Nat → Bool} {f : Nat} {cs : List Plc} {listed : Array Bool} {F : Env} (hb : LG ops iq f cs) (hsz : listed.size = ops.size) (hout : ∀ t, (∀ o ∈ quO ops iq, o.dst ≠ some t) → get F t = get s.E t)
    (hsol : ∀ i o, iq i = true → listed.getD i true = false → ops[i]? = some o → SolX P ops s.σ s.N F o) (hpl : ∀ i o, iq i = true → listed.getD i true = false → ops[i]? = some o → plainB o.op = true) (hmix : MixQ ops iq listed s.E F E') (hr : RelE β ⟨s.N, E', s.σ⟩ a w) :
    ∃ a2, Ag (MissQ ops iq listed) a a2 ∧ RelE β ⟨s.N, F, s.σ⟩ a2 w := by
  have step : ∀ k, k ≤ ops.size → ∃ L E2 a2, L.size = ops.size ∧ (∀ j, j < k → iq j = true → L.getD j false = true) ∧ (∀ j, listed.getD j false = true → L.getD j false = true) ∧ MixQ ops iq L s.E F E2 ∧ Ag (MissQ ops iq listed) a a2 ∧ RelE β ⟨s.N, E2, s.σ⟩ a2 w := by
    intro k
    induction k with
    | zero => intro _; exact ⟨listed, E', a, hsz, fun j hj => by omega, fun _ h => h, hmix, ⟨rfl, rfl, fun _ _ => rfl⟩, hr⟩
    | succ k ih =>
      intro hk
      obtain ⟨L, E2, a2, h1, h2, h3, h4, h5, h6⟩ := ih (by omega)
      have same : (iq k = true → L.getD k false = true) → ∃ L E2 a2, L.size = ops.size ∧ (∀ j, j < k + 1 → iq j = true → L.getD j false = true) ∧ (∀ j, listed.getD j false = true → L.getD j false = true) ∧ MixQ ops iq L s.E F E2 ∧ Ag (MissQ ops iq listed) a a2 ∧ RelE β ⟨s.N, E2, s.σ⟩ a2 w := fun hl =>
        ⟨L, E2, a2, h1, fun j hj hq => by
          rcases Nat.lt_or_ge j k with h | h
          · exact h2 j h hq
          · obtain rfl : j = k := by omega
            exact hl hq, h3, h4, h5, h6⟩
      cases hkq : iq k with
      | false => exact same fun h => by rw [hkq] at h; cases h
      | true =>
        cases hl : L.getD k false with
        | true => exact same fun _ => hl
        | false =>
          have hkl : k < ops.size := by omega
          have ho : ops[k]? = some ops[k] := by simp [hkl]
          generalize ops[k] = o at ho
          have hu : listed.getD k true = false := by
            cases h : listed.getD k false with
            | true => rw [h3 k h] at hl; cases hl
            | false =>
              have : k < listed.size := by omega
              simpa [this] using h
          obtain ⟨d, r, hd, hdN, hF, hsl⟩ := hsol k o hkq hu ho
          have hall : ∀ e ∈ o.after, Region.binds .any e = true → iq e.on = true → L.getD e.on false = true := fun e he hbd hq => h2 e.on ((waitB_spec hb.back ho).1 e he hbd) hq
          have hag := h4.looksG hb hout ho hkq hall
          obtain ⟨ω, κ, hr'⟩ := id h6
          have key : ∀ u, RT w ω κ s.σ r u → ∃ L E2 a2, L.size = ops.size ∧ (∀ j, j < k + 1 → iq j = true → L.getD j false = true) ∧ (∀ j, listed.getD j false = true → L.getD j false = true) ∧ MixQ ops iq L s.E F E2 ∧ Ag (MissQ ops iq listed) a a2 ∧ RelE β ⟨s.N, E2, s.σ⟩ a2 w := fun u hu' => by
            refine ⟨L.setIfInBounds k true, (d, r) :: E2, a2.put (some d) u, by simp [h1], fun j hj hq => ?_, fun j hj => getD_set_true (h3 j hj), h4.set ho hkq h1 hd hF, h5.virt ⟨k, o, hkq, hu, ho, hd⟩ u, ⟨ω, κ, hr'.put hdN hu'⟩⟩
            rcases Nat.lt_or_ge j k with h | h
            · exact getD_set_true (h2 j h hq)
            · obtain rfl : j = k := by omega
              simp [h1, hkl]
          rcases hsl with ⟨hg, hq⟩ | ⟨hg, rfl⟩
          · obtain ⟨u, g1, g2⟩ := ev1_ok (P := P) (o := o) hr'.rs hr'.env (plain_ev (hpl k o hkq hu ho) (qvX_congr (looks_opnd hag) hq))
            exact key u g2
          · exact key undef ⟨[], rfl, rfl, by simp⟩
  obtain ⟨L, E2, a2, h1, h2, h3, h4, h5, h6⟩ := step ops.size (Nat.le_refl _)
  exact ⟨a2, h5, h6.weak ⟨rfl, fun t x hx => by rw [h4.full hout h2]; exact hx, fun _ _ h => h⟩⟩

theorem head_anyY {ops : Array Oper} {iq : Nat → Bool} {f m d0 : Nat} {t0 : TypeId} {zs : List Value} {cs : List Plc} {Q : Exit → Act → World → Prop} {K : St → Prop} {s : St} {G : Env} (hb : LG ops iq f cs) (hwm : ∀ c ∈ cs, befB ops f c.1 m = true) (him : iq m = true)
    (hm : ∃ o, ops[m]? = some o ∧ o.op = .alloc t0 ∧ o.dst = some d0 ∧ o.guard = none) (hz : wpO.zvOf P t0 = some zs ∧ d0 < s.N ∧ noS (2 * d0) s.σ = true ∧ (get s.σ (2 * d0)).isSome = false ∧ get G d0 = some (.c (.rf (2 * d0) 0)))
    (hfr : ∀ i o d r, iq i = true → i ≠ m → ops[i]? = some o → o.dst = some d → get G d = some r → r.has (2 * d0) = false)
    (hout : ∀ t, (∀ o ∈ quO ops iq, o.dst ≠ some t) → get G t = get s.E t) (hsol : ∀ i o, iq i = true → i ≠ m → ops[i]? = some o → SolX P ops s.σ s.N G o)
    (hnd : (cs.map Prod.fst).Nodup) (hop : opsG P ops cs.length cs ⟨s.N, G, (2 * d0, .box t0 (zs.map ofC)) :: s.σ⟩ K) (hn : ∀ s' a' w', K s' → RelE β s' a' w' → Q .normal a' w') :
    ∀ (fuel : Nat) (listed : Array Bool) (E' : Env) (a : Act) (w : World), listed.size = ops.size → ClosedL ops listed → (∀ c ∈ cs, listed.getD c.1 true = false) → (((List.range ops.size).filter fun j => !listed.getD j true).length ≤ fuel) →
      MixQ ops iq listed s.E G E' → (listed.getD m true = false → noE (2 * d0) E' = true) → RelE β ⟨s.N, E', if listed.getD m true = true then (2 * d0, .box t0 (zs.map ofC)) :: s.σ else s.σ⟩ a w → wpAny P .any ops Q fuel listed a w := by
  obtain ⟨om, hom, hopm, hdm, hgm⟩ := hm
  obtain ⟨hzv, hd0, hnoS, hfree, hGd⟩ := hz
  have hml := (Array.getElem?_eq_some_iff.1 hom).1
  have hsub : SubS s.σ ((2 * d0, .box t0 (zs.map ofC)) :: s.σ) := fun k x hk => by
    rw [get_cons]
    split
    · rename_i e; rw [← e, hk] at hfree; cases hfree
    · exact hk
  have solm : ∀ {i : Nat} {o : Oper}, iq i = true → i ≠ m → ops[i]? = some o → SolX P ops ((2 * d0, .box t0 (zs.map ofC)) :: s.σ) s.N G o := fun h1 h2 h3 => by
    obtain ⟨d, r, g1, g2, g3, g4⟩ := hsol _ _ h1 h2 h3
    refine ⟨d, r, g1, g2, g3, ?_⟩
    rcases g4 with ⟨g4, g5⟩ | g4
    · exact .inl ⟨g4, qvX_mono hsub g5⟩
    · exact .inr g4
  have plainly : ∀ (fuel : Nat) (listed : Array Bool) (E' : Env) (a : Act) (w : World), listed.size = ops.size → ClosedL ops listed → (∀ c ∈ cs, listed.getD c.1 true = false) → (((List.range ops.size).filter fun j => !listed.getD j true).length ≤ fuel) →
      MixQ ops iq listed s.E G E' → listed.getD m true = true → RelE β ⟨s.N, E', (2 * d0, .box t0 (zs.map ofC)) :: s.σ⟩ a w → (∀ j o, iq j = true → listed.getD j true = false → ops[j]? = some o → plainB o.op = true) → wpAny P .any ops Q fuel listed a w := fun fuel listed E' a w hsz hcl ht hf hmix hlm hr hp => by
    have hne : ∀ {i : Nat}, listed.getD i true = false → i ≠ m := fun h e => by subst e; rw [hlm] at h; cases h
    obtain ⟨a2, hag, hr2⟩ := virtY (s := ⟨s.N, s.E, (2 * d0, .box t0 (zs.map ofC)) :: s.σ⟩) hb hsz hout (fun i o h1 h2 h3 => solm h1 (hne h2) h3) (fun i o h1 h2 h3 => hp i o h1 h2 h3) hmix hr
    exact tail_anyG hb hn fuel cs listed ⟨s.N, G, (2 * d0, .box t0 (zs.map ofC)) :: s.σ⟩ a a2 w hnd hsz hcl ⟨fun c hc => ⟨hc, ht c hc⟩, fun c hc _ => hc⟩ hf hag hr2 (fun j o hj hu ho => ⟨hp j o hj hu ho, solm hj (hne hu) ho⟩) hop
  intro fuel
  induction fuel with
  | zero =>
    intro listed E' a w hsz hcl ht hf hmix hfe hr
    have hall : ∀ j, j < ops.size → listed.getD j true = true := fun j hj => by
      cases hl : listed.getD j true with
      | true => rfl
      | false =>
        have : j ∈ (List.range ops.size).filter fun j => !listed.getD j true := List.mem_filter.2 ⟨List.mem_range.2 hj, by simp [hl]⟩
        have := List.length_pos_of_mem this
        omega
    rw [if_pos (hall m hml)] at hr
    exact plainly 0 listed E' a w hsz hcl ht hf hmix (hall m hml) hr fun j o hj hu ho => by rw [hall j (Array.getElem?_eq_some_iff.1 ho).1] at hu; cases hu
  | succ fuel ih =>
    intro listed E' a w hsz hcl ht hf hmix hfe hr
    by_cases hp : listed.getD m true = true ∧ ∀ j o, iq j = true → listed.getD j true = false → ops[j]? = some o → plainB o.op = true
    · rw [if_pos hp.1] at hr
      exact plainly (fuel + 1) listed E' a w hsz hcl ht hf hmix hp.1 hr hp.2
    · -- something is left that the others wait for
      obtain ⟨j0, q0, hj0, hun0, hq0, hbef⟩ : ∃ j o, iq j = true ∧ listed.getD j true = false ∧ ops[j]? = some o ∧ ∀ c ∈ cs, befB ops f c.1 j = true := by
        by_cases hl : listed.getD m true = true
        · obtain ⟨j, o, h1, h2, h3, h4⟩ : ∃ j o, iq j = true ∧ listed.getD j true = false ∧ ops[j]? = some o ∧ ¬ plainB o.op = true := by
            apply Classical.byContradiction
            intro hno
            exact hp ⟨hl, fun j o h1 h2 h3 => Classical.byContradiction fun h4 => hno ⟨j, o, h1, h2, h3, h4⟩⟩
          refine ⟨j, o, h1, h2, h3, fun c hc => ?_⟩
          obtain ⟨_, _, o', ho', _, _, _, hx⟩ := hb.chain c hc
          rcases hx j o h1 h3 with g | g
          · exact g
          · exact absurd g.1 h4
        · exact ⟨m, om, him, by simpa using hl, hom, hwm⟩
      have hnone : ∀ {j : Nat}, j < ops.size → listed.getD j true = false → listed.getD j false = true → False := fun {j} hj h1 h2 => by
        have : j < listed.size := by omega
        simp [this] at h1 h2
        rw [h1] at h2; cases h2
      have hj0l := (Array.getElem?_eq_some_iff.1 hq0).1
      obtain ⟨j1, hj1, _⟩ := ready_least hb.back hsz j0 hj0l hun0
      refine ⟨fun h => (by rw [h] at hj1; cases hj1), fun i hi => ?_⟩
      obtain ⟨hui, o, ho, hall⟩ := mem_ready.1 hi
      have hil : i < ops.size := (Array.getElem?_eq_some_iff.1 ho).1
      have hin : iq i = true := by
        cases hiq : iq i with
        | true => rfl
        | false =>
          obtain ⟨c, hc, rfl⟩ := hb.cover i hil hiq
          exact (hnone hj0l hun0 (bef_ok hcl f c.1 j0 o ho hall (hbef c hc))).elim
      have hset : ∀ {j : Nat}, i ≠ j → (listed.setIfInBounds i true).getD j true = listed.getD j true := fun h => getD_set_ne true h
      have htc : ∀ c ∈ cs, (listed.setIfInBounds i true).getD c.1 true = false := fun c hc => by rw [getD_set_ne true fun e => by have := (hb.chain c hc).1; rw [← e, hin] at this; cases this]; exact ht c hc
      by_cases him' : i = m
      · subst him'
        have : o = om := Option.some.inj (ho.symm.trans hom)
        subst this
        rw [if_neg (by rw [hui]; simp)] at hr
        have hgd : gdOf ops E' o = some true := by simp [gdOf, hgm]
        obtain ⟨ω, κ, hr'⟩ := id hr
        unfold wpOp
        simp only [ho]
        rw [if_pos (gdOf_ok hr'.env hgd)]
        refine .inl (wpO_ok (s := ⟨s.N, E', s.σ⟩) (K := fun s' => s' = ⟨s.N, (d0, .c (.rf (2 * d0) 0)) :: E', (2 * d0, .box t0 (zs.map ofC)) :: s.σ⟩) ?_ hr fun s' a' w' hs' hr2 => ?_)
        · unfold wpO
          simp only [hopm, hdm, hzv]
          exact ⟨hd0, hfe hui, hnoS, trivial⟩
        · subst hs'
          have hl2 : (listed.setIfInBounds i true).getD i true = true := by simp [hsz, hil]
          refine ih _ _ a' w' (by simp [hsz]) (hcl.set ho hall) htc (count_set hil hsz hui hf) (hmix.set ho hin hsz hdm hGd) (fun h => ?_) ?_
          · rw [hl2] at h; cases h
          · rw [if_pos hl2]; exact hr2
      · obtain ⟨d, r, hd, hdN, hF, hsl⟩ := hsol i o hin him' ho
        have hag := hmix.looksG hb hout ho hin fun e he hbd _ => hall e he hbd
        have hsb : SubS s.σ (if listed.getD m true = true then (2 * d0, .box t0 (zs.map ofC)) :: s.σ else s.σ) := by
          split
          · exact hsub
          · exact SubS.refl
        have hnext : ∀ a' w', RelE β ((⟨s.N, E', if listed.getD m true = true then (2 * d0, .box t0 (zs.map ofC)) :: s.σ else s.σ⟩ : St).put d r) a' w' → wpAny P .any ops Q fuel (listed.setIfInBounds i true) a' w' := fun a' w' hr' =>
          ih _ ((d, r) :: E') a' w' (by simp [hsz]) (hcl.set ho hall) htc (count_set hil hsz hui hf) (hmix.set ho hin hsz hd hF) (fun h => by
            rw [hset him'] at h
            simp only [noE, Bool.and_eq_true, Bool.not_eq_true']
            exact ⟨hfr i o d r hin him' ho hd hF, hfe h⟩) (by rw [hset him']; exact hr')
        unfold wpOp
        simp only [ho]
        obtain ⟨ω, κ, hr'⟩ := id hr
        rcases hsl with ⟨hg, hq⟩ | ⟨hg, rfl⟩
        · rw [gdOf_congr hag] at hg
          rw [if_pos (gdOf_ok hr'.env hg)]
          exact .inl (qvX_ok (s := ⟨s.N, E', if listed.getD m true = true then (2 * d0, .box t0 (zs.map ofC)) :: s.σ else s.σ⟩) (qvX_mono hsb (qvX_congr (looks_opnd hag) hq)) hd hdN hr hnext)
        · rw [gdOf_congr hag] at hg
          have hf' := gdOf_ok hr'.env hg
          rw [if_neg (by rw [hf']; simp), hd]
          exact hnext _ _ ⟨ω, κ, hr'.put hdN ⟨[], rfl, rfl, by simp⟩⟩
/-- Each waits for the one ahead. -/
def chainP : List Plc → Bool
  | c :: d :: r => (c.2.1.all fun j => (c :: d :: r).all fun e => e.1 != j) && d.2.1.contains c.1 && chainP (d :: r)
  | [c] => c.2.1.all fun j => [c].all fun e => e.1 != j
  | [] => true
theorem chainP_pred : ∀ {c : Plc} {r : List Plc}, chainP (c :: r) = true → ∀ x ∈ r, ∃ p ∈ c :: r, p.1 ∈ x.2.1
  | c, [], _, x, hx => by cases hx
  | c, d :: r, h, x, hx => by
    simp only [chainP, Bool.and_eq_true] at h
    rcases List.mem_cons.1 hx with rfl | hx
    · exact ⟨c, List.mem_cons_self, by simpa using h.1.2⟩
    · obtain ⟨p, hp, g⟩ := chainP_pred h.2 x hx
      exact ⟨p, List.mem_cons_of_mem _ hp, g⟩
theorem chainP_tail {c : Plc} {r : List Plc} (h : chainP (c :: r) = true) : chainP r = true := by
  cases r with
  | nil => rfl
  | cons d r => simp only [chainP, Bool.and_eq_true] at h; exact h.2
theorem chainP_head {c : Plc} {r : List Plc} (h : chainP (c :: r) = true) : (c.2.1.all fun j => (c :: r).all fun e => e.1 != j) = true := by
  cases r with
  | nil => exact h
  | cons d r => simp only [chainP, Bool.and_eq_true] at h; exact h.1.1
theorem opsM_opsG {ops : Array Oper} {K : St → Prop} : ∀ {cs : List Plc} {l : List Oper}, chainP cs = true → (cs.map Prod.fst).Nodup → (∀ c ∈ cs, (ops[c.1]?).isSome = true) → cs.filterMap (fun c => ops[c.1]?) = l →
    ∀ s : St, opsM P ops (cs.map fun c => c.2.2) l s K = opsG P ops cs.length cs s K
  | [], l, _, _, _, hl, s => by subst hl; rfl
  | c :: r, l, hc, hnd, hs, hl, s => by
    obtain ⟨o, ho⟩ := Option.isSome_iff_exists.1 (hs c List.mem_cons_self)
    rw [List.filterMap_cons, ho] at hl
    subst hl
    rw [List.map_cons, opsM_cons]
    rw [List.map_cons, List.nodup_cons] at hnd
    have hfil : ((c :: r).filter fun d => d.1 != c.1) = r := by
      rw [List.filter_cons]
      simp only [bne_self_eq_false, Bool.false_eq_true, if_false]
      refine List.filter_eq_self.2 fun d hd => ?_
      simp only [bne_iff_ne, ne_eq]
      exact fun e => hnd.1 (e ▸ List.mem_map.2 ⟨d, hd, rfl⟩)
    have ih : (fun s' => solI P ops s' c.2.2 ∧ opsM P ops (r.map fun c => c.2.2) (r.filterMap fun c => ops[c.1]?) s' K) = fun s' => solI P ops s' c.2.2 ∧ opsG P ops r.length ((c :: r).filter fun d => d.1 != c.1) s' K := by
      funext s'
      rw [hfil, opsM_opsG (chainP_tail hc) hnd.2 (fun d hd => hs d (List.mem_cons_of_mem _ hd)) rfl s']
    rw [ih]
    apply propext
    constructor
    · intro h x hx hen
      rcases List.mem_cons.1 hx with rfl | hx
      · simp only [ho]; exact h
      · exfalso
        obtain ⟨p, hp, hpx⟩ := chainP_pred hc x hx
        have := List.all_eq_true.1 (List.all_eq_true.1 hen p.1 hpx) p hp
        simp at this
    · intro h
      have := h c List.mem_cons_self (chainP_head hc)
      simp only [ho] at this
      exact this
def iqY (qs : List Nat) (m : Nat) (i : Nat) : Bool := qs.contains i || i == m
/-- What is asked of the form: the places of what turns nothing; the allocation's place, whither it goes; the chain. -/
def drawYB (ops : Array Oper) (qs : List Nat) (m d f : Nat) (cs : List Plc) : Bool := lateGB ops (iqY qs m) f cs && lateB ops (qs.filterMap fun i => ops[i]?) && (cs.all fun c => befB ops f c.1 m && (ops[c.1]?).isSome) && chainP cs && decide (cs.map Prod.fst).Nodup && !qs.contains m &&
  match ops[m]? with
  | some o => o.guard.isNone && (match o.op with | .alloc _ => true | _ => false) && o.dst == some d && (qs.filterMap fun i => ops[i]?).all fun p => p.dst != some d && !(p.looksAt ops).contains d
  | none => false
/-- **A region whose order is open: one allocation in any place, reads that come late.** -/
theorem Sm.drawY {id : Nat} {ops : Array Oper} {K : Exit → St → Prop} {l1 l2 : List Oper} {om : Oper} (qs : List Nat) (m d f : Nat) (cs : List Plc) (hm : P.follows .mixedOrders = true) (hb : drawYB ops qs m d f cs = true) (hk : (get s.σ (2 * d)).isSome = false)
    (e0 : ops[m]? = some om) (e1 : qs.filterMap (fun i => ops[i]?) = l1) (e2 : cs.filterMap (fun c => ops[c.1]?) = l2) (h : qX P ops l1 s fun s' => opsM P ops ([] :: cs.map fun c => c.2.2) (om :: l2) s' (K .normal)) : Sm P (.region id ops true) s K := fun β a w hr => by
  subst e1; subst e2
  simp only [drawYB, Bool.and_eq_true, decide_eq_true_eq, Bool.not_eq_true'] at hb
  obtain ⟨⟨⟨⟨⟨⟨hb, hl⟩, hbm⟩, hch⟩, hnd⟩, hqm⟩, hal⟩ := hb
  simp only [e0, Bool.and_eq_true, beq_iff_eq, Option.isNone_iff_eq_none] at hal
  obtain ⟨⟨⟨hgu, hop⟩, hdst⟩, hall⟩ := hal
  obtain ⟨F, h1, h2, h4, h3⟩ := qX_sol h hl
  have hLG := LG.of hb
  have hq : ∀ i o, iqY qs m i = true → i ≠ m → ops[i]? = some o → o ∈ qs.filterMap fun i => ops[i]? := fun i o hi him ho => by
    simp only [iqY, Bool.or_eq_true, List.contains_eq_mem, decide_eq_true_eq, beq_iff_eq] at hi
    exact List.mem_filterMap.2 ⟨i, hi.resolve_right him, ho⟩
  refine wp_region_any hm ?_
  have hr' : RelE β s a { w with drawn := w.drawn + 1 } := by
    obtain ⟨ω, κ, hr⟩ := hr
    exact ⟨ω, κ, hr.grown ⟨rfl, rfl, rfl, Nat.le_refl _, fun _ _ _ => rfl⟩⟩
  have hg : ∀ j, (Array.replicate ops.size false).getD j false = false := fun j => getD_replicate_false _ _
  have hg1 : ∀ j, j < ops.size → (Array.replicate ops.size false).getD j true = false := fun j hj => by simp [hj]
  have hml := (Array.getElem?_eq_some_iff.1 e0).1
  split at hop
  · rename_i t0 hop0
    rw [opsM_cons] at h1
    unfold wpO at h1
    simp only [hop0, hdst] at h1
    split at h1
    · rename_i zs hzv
      obtain ⟨hdN, hE, hS, _, h1⟩ := h1
      have hne : ∀ i o' d', iqY qs m i = true → i ≠ m → ops[i]? = some o' → o'.dst = some d' → d' ≠ d := fun i o' d' hi him ho' hd' e => by
        have := List.all_eq_true.1 hall o' (hq i o' hi him ho')
        simp [hd', e] at this
      have hlk : ∀ i o', iqY qs m i = true → i ≠ m → ops[i]? = some o' → ∀ t ∈ o'.looksAt ops, t ≠ d := fun i o' hi him ho' t ht e => by
        have := List.all_eq_true.1 hall o' (hq i o' hi him ho')
        simp only [Bool.and_eq_true, Bool.not_eq_true', List.contains_eq_mem, decide_eq_false_iff_not] at this
        exact this.2 (e ▸ ht)
      refine head_anyY (s := s) (m := m) (d0 := d) (t0 := t0) (zs := zs) (G := (d, .c (.rf (2 * d) 0)) :: F) hLG (fun c hc => (Bool.and_eq_true _ _ ▸ List.all_eq_true.1 hbm c hc).1) (by simp [iqY])
        ⟨om, e0, hop0, hdst, hgu⟩ ⟨hzv, hdN, hS, hk, by rw [get_cons, if_pos rfl]⟩ (fun i o' d' r hi him ho' hd' hG => ?_) (fun t ht => ?_) (fun i o' hi him ho' => ?_) hnd
        ((opsM_opsG hch hnd (fun c hc => (Bool.and_eq_true _ _ ▸ List.all_eq_true.1 hbm c hc).2) rfl _) ▸ h1) (fun s' a' w' hk hr => ⟨s', hk, hr⟩) ops.size _ s.E a _ (by simp)
        (fun j oj hj hl => (by rw [hg] at hl; cases hl)) (fun c hc => (by obtain ⟨_, _, o, ho, _⟩ := hLG.chain c hc; exact hg1 _ (Array.getElem?_eq_some_iff.1 ho).1)) (Nat.le_trans (List.length_filter_le _ _) (by simp)) (fun t => ⟨fun ⟨j, o, _, hj, _⟩ => (by rw [hg] at hj; cases hj), fun _ => rfl⟩) (fun _ => h4 _ hE)
        (by rw [hg1 m hml]; exact hr')
      · rw [get_cons, if_neg (hne i o' d' hi him ho' hd')] at hG
        exact noE_get hE hG
      · have : t ≠ d := fun e => ht om (mem_quO.2 ⟨m, by simp [iqY], e0⟩) (by rw [hdst, e])
        rw [get_cons, if_neg this]
        exact h2 t fun o' ho' => ht o' (by
          obtain ⟨i, hi, hio⟩ := List.mem_filterMap.1 ho'
          exact mem_quO.2 ⟨i, by simp [iqY, hi], hio⟩)
      · exact (h3 o' (hq i o' hi him ho')).congr (fun t ht => by rw [get_cons, if_neg (hlk i o' hi him ho' t ht)]) fun d' hd' => by rw [get_cons, if_neg (hne i o' d' hi him ho' hd')]
    · exact h1.elim
  · cases hop
theorem Sm.drawYK {id : Nat} {ops : Array Oper} {K : Exit → St → Prop} {l1 l2 : List Oper} {LL : List (List Nat)} {om : Oper} (qs : List Nat) (m d f : Nat) (cs : List Plc) (hm : P.follows .mixedOrders = true) (hb : drawYB ops qs m d f cs = true) (hk : (get s.σ (2 * d)).isSome = false)
    (e0 : ops[m]? = some om) (e1 : qs.filterMap (fun i => ops[i]?) = l1) (e2 : cs.filterMap (fun c => ops[c.1]?) = l2) (e3 : ([] :: cs.map fun c => c.2.2) = LL) (h : qX P ops l1 s fun s' => opsM P ops LL (om :: l2) s' (K .normal)) : Sm P (.region id ops true) s K := Sm.drawY qs m d f cs hm hb hk e0 e1 e2 (by subst e3; exact h)
end
end Go.VC
/- Regions whose order is open, with objects that come in any order. -/
set_option linter.unusedSimpArgs false
set_option linter.unusedVariables false
namespace Go.VC
open Go Go.RowKit
/-- The same frame, however its lists are ordered. -/
structure St.same (s T : St) : Prop where
  N : s.N = T.N
  E : ∀ t, get T.E t = get s.E t
  σ : ∀ k, get T.σ k = get s.σ k
theorem St.same.refl (s : St) : St.same s s := ⟨rfl, fun _ => rfl, fun _ => rfl⟩
theorem KeyOk.ofGet {κ : Nat → Value} {σ σ' : Sto} {k : Nat} (h : get σ' k = get σ k) : KeyOk κ σ κ σ' k := ⟨fun _ => rfl, fun o m ho hm => ⟨o, m, by rw [← h]; exact ho, hm, Nat.le_refl _, fun _ => rfl⟩⟩
theorem NestOk.ofGet {w : World} {κ : Nat → Value} {σ σ' : Sto} {k : Nat} (h : get σ' k = get σ k) : NestOk w κ σ w κ σ' k := fun o m ho hm => ⟨⟨o, m, by rw [← h]; exact ho, hm⟩, rfl, fun _ _ _ _ _ => rfl⟩
theorem RelE.same {β : Base} {s T : St} {a : Act} {w : World} (h : St.same s T) (hr : RelE β s a w) : RelE β T a w := by
  obtain ⟨ω, κ, hr⟩ := hr
  refine ⟨ω, κ, hr.turn, fun k hk => (hr.keys k hk).trans (KeyOk.ofGet (h.σ k)), hr.odd, hr.defers, hr.size.trans h.N, fun t x hx => ?_, ⟨fun k o ho => ?_, hr.rs.dom⟩⟩
  · obtain ⟨h1, h2⟩ := hr.env t x (by rw [← h.E t]; exact hx)
    exact ⟨h1, h2.step ⟨fun b hb => ⟨hb, rfl⟩, fun k _ => KeyOk.ofGet (h.σ k), fun k _ => NestOk.ofGet (h.σ k)⟩⟩
  · exact (hr.rs.ob k o (by rw [← h.σ k]; exact ho)).step rfl (fun b hb => ⟨hb, rfl⟩) (fun b hb => ⟨hb, rfl⟩) fun _ _ _ i _ => KeyOk.ofGet (h.σ i)
theorem get_none {α : Type} : ∀ {l : List (Nat × α)} {k : Nat}, k ∉ l.map Prod.fst → get l k = none
  | [], _, _ => rfl
  | (j, o) :: r, k, h => by
    simp only [List.map_cons, List.mem_cons, not_or] at h
    rw [get_cons, if_neg h.1, get_none h.2]
theorem get_same {α : Type} {l m : List (Nat × α)} (h : ∀ k ∈ l.map Prod.fst ++ m.map Prod.fst, get m k = get l k) : ∀ k, get m k = get l k := fun k => by
  by_cases hk : k ∈ l.map Prod.fst ++ m.map Prod.fst
  · exact h k hk
  · simp only [List.mem_append, not_or] at hk
    rw [get_none hk.1, get_none hk.2]
theorem St.sameOf {s T : St} (hN : s.N = T.N) (hE : ∀ t ∈ s.E.map Prod.fst ++ T.E.map Prod.fst, get T.E t = get s.E t) (hσ : ∀ k ∈ s.σ.map Prod.fst ++ T.σ.map Prod.fst, get T.σ k = get s.σ k) : St.same s T := ⟨hN, get_same hE, get_same hσ⟩
theorem all_nil {α : Type} {p : α → Prop} : (∀ x ∈ ([] : List α), p x) = True := by simp
section
variable {s : St} {P : Program}
theorem goCG {g d : Nat} {xs : List TV} {K : St → Prop} {t : Tg K} (h : CallG P s g xs d K t) : CallG P s g xs d K t := h
/-- **A region whose order is open**, as drawG: the lists of variables and of objects may come in any order. -/
theorem Sm.drawH {id : Nat} {ops : Array Oper} {K : Exit → St → Prop} {l1 : List Oper} (qs : List Nat) (f : Nat) (cs : List Plc) (hm : P.follows .mixedOrders = true) (hb : (lateGB ops (fun i => qs.contains i) f cs && decide (((List.range ops.size).filter fun i => qs.contains i) = qs)) = true)
    (hnd : (cs.map Prod.fst).Nodup) (e1 : qs.filterMap (fun i => ops[i]?) = l1) (T : St) (h : qX P ops l1 s fun s' => opsG P ops cs.length cs s' (fun s' => St.same s' T)) (hK : K .normal T) : Sm P (.region id ops true) s K := fun β a w hr => by
  subst e1
  simp only [Bool.and_eq_true, decide_eq_true_eq] at hb
  obtain ⟨hb, hqs⟩ := hb
  have hq : quO ops (fun i => qs.contains i) = qs.filterMap (fun i => ops[i]?) := by rw [quO, hqs]
  have hl : lateB ops (quO ops fun i => qs.contains i) = true := by
    simp only [lateGB, Bool.and_eq_true] at hb
    exact hb.1.1.1.2
  rw [← hq] at h
  obtain ⟨F, h1, h2, h4, h3⟩ := qX_sol h hl
  refine wp_region_any hm ?_
  have hr' : RelE β s a { w with drawn := w.drawn + 1 } := by
    obtain ⟨ω, κ, hr⟩ := hr
    exact ⟨ω, κ, hr.grown ⟨rfl, rfl, rfl, Nat.le_refl _, fun _ _ _ => rfl⟩⟩
  have hg : ∀ j, (Array.replicate ops.size false).getD j false = false := fun j => getD_replicate_false _ _
  have hLG := LG.of hb
  refine head_anyG (s := s) (F := F) hLG h2 (fun i o hi ho => h3 o (mem_quO.2 ⟨i, hi, ho⟩)) hnd h1 (fun s' a' w' hk hr => ⟨T, hK, hr.same hk⟩) ops.size _ s.E a _ (by simp)
    (fun j oj hj hl => (by rw [hg] at hl; cases hl)) (fun c hc => (by obtain ⟨_, _, o, ho, _⟩ := hLG.chain c hc; simp [(Array.getElem?_eq_some_iff.1 ho).1])) (Nat.le_trans (List.length_filter_le _ _) (by simp)) (fun t => ⟨fun ⟨j, o, _, hj, _⟩ => (by rw [hg] at hj; cases hj), fun _ => rfl⟩) hr'
end
end Go.VC
/- Nil slices among a call's results are taken for own rows without elements. -/
set_option linter.unusedSimpArgs false
set_option linter.unusedVariables false
namespace Go.VC
open Go Go.RowKit
section
variable {w w' : World} {ω ω' : Lab} {κ κ' : Nat → Value} {P : Program}
theorem FnS.nlT {g : FuncId} {σ0 σ1 : Sto} {ys : List TV} {cs : List Cell} {ts : List TV} (h : FnS P g σ0 ys σ1 (.tp (.ag cs :: ts))) (i q : Nat) (hi : cs[i]? = some .nl) (h1 : (get σ1 q).isSome = false) (h0 : (get σ0 q).isSome = false) (hc : hasL q cs = false) (hts : (ts.all fun t => !t.has q) = true) (hs : noS q σ1 = true) :
    FnS P g σ0 ys ((q, .row 0 []) :: σ1) (.tp (.ag (cs.set i (.os q 0)) :: ts)) := by
  intro w ω κ vs hS hω hvs
  refine (h w ω κ vs hS hω hvs).mono fun e w' ⟨v, ω', κ', he, ht, hS', hr, hk⟩ => ?_
  have hne : ∀ k, (get σ1 k).isSome = true → k ≠ q := fun k hk' e => by rw [e, h1] at hk'; cases hk'
  have hkey : ∀ k, k ≠ q → KeyOk κ' σ1 (setK κ' q (.slice none 0 0)) ((q, .row 0 []) :: σ1) k := fun k hkq => ⟨fun _ => setK_ne κ' _ hkq, fun o' m' ho hm => by
    rw [get_cons, if_neg hkq] at ho
    exact ⟨o', m', ho, hm, Nat.le_refl _, fun _ => setK_ne κ' _ hkq⟩⟩
  have him : ∀ b, ω' b = .im → ω' b = .im ∧ w'.heap[b]? = w'.heap[b]? := fun b hb => ⟨hb, rfl⟩
  have hover : ∀ c : Cell, c.has q = false → ∀ u, RC w' ω' κ' σ1 c u → RC w' ω' (setK κ' q (.slice none 0 0)) ((q, .row 0 []) :: σ1) c u := fun c hcq u hu =>
    hu.step ⟨him, fun k hk' => hkey k (fun e => by rw [e, hcq] at hk'; cases hk'), fun k hk' o' m' ho hm => by
      have hkq : k ≠ q := fun e => by have := hasN_has k c hk'; rw [e, hcq] at this; cases this
      rw [get_cons, if_neg hkq] at ho
      exact ⟨⟨o', m', ho, hm⟩, setK_ne κ' _ hkq, fun _ _ _ _ _ => rfl⟩⟩
  refine ⟨v, ω', setK κ' q (.slice none 0 0), he, ht, ⟨fun k o ho => ?_, hS'.dom⟩, ?_, fun k hk' => (hk k hk').trans (hkey k fun e => by rw [e, h0] at hk'; cases hk')⟩
  · rw [get_cons] at ho
    split at ho
    · rename_i e
      subst e
      obtain rfl := Option.some.inj ho
      exact ⟨fun _ => False, by rw [setK_eq]; exact .z none _ fun _ h => h, fun _ h => h.elim⟩
    · rename_i hkq
      refine (hS'.ob k o ho).step (setK_ne κ' _ hkq) (fun b hb => ⟨hb, rfl⟩) him fun t cs' e j hj => hkey j fun e' => ?_
      subst e; subst e'
      rw [noS_get hs ho] at hj; cases hj
  · obtain ⟨us, rfl, g1, g2⟩ := hr
    refine ⟨us, rfl, by simpa using g1, fun j x u hx hu => ?_⟩
    cases j with
    | zero =>
      obtain rfl := Option.some.inj hx
      obtain ⟨us2, rfl, g3, g4⟩ := g2 0 _ u rfl hu
      refine ⟨us2, rfl, ⟨by simpa using g3.1, fun j x u hx hu => ?_⟩, g4⟩
      rw [List.getElem?_set] at hx
      split at hx
      · rename_i e
        subst e
        split at hx
        · obtain rfl := Option.some.inj hx
          have := g3.2 i _ u hi hu
          cases this
          exact .os q 0 none 0 (Nat.le_refl _) (fun _ => rfl) fun o m ho hm => by
            rw [get_cons, if_pos rfl] at ho
            obtain rfl := Option.some.inj ho
            obtain rfl := Option.some.inj hm
            exact ⟨Nat.le_refl _, fun _ => setK_eq κ' q _⟩
        · cases hx
      · refine hover x ?_ u (g3.2 j x u hx hu)
        cases hxq : x.has q with
        | false => rfl
        | true => rw [hasL_mem hx hxq] at hc; cases hc
    | succ j =>
      have hxt : x ∈ ts := List.mem_of_getElem? hx
      have hxq : x.has q = false := by
        have := List.all_eq_true.1 hts x hxt
        simpa using this
      exact (g2 (j + 1) x u hx hu).step ⟨him, fun k hk' => hkey k (fun e => by rw [e, hxq] at hk'; cases hk'), fun k hk' o' m' ho hm => by
        have hkq : k ≠ q := fun e => by have := hasNT_has k x hk'; rw [e, hxq] at this; cases this
        rw [get_cons, if_neg hkq] at ho
        exact ⟨⟨o', m', ho, hm⟩, setK_ne κ' _ hkq, fun _ _ _ _ _ => rfl⟩⟩
end
end Go.VC
/- Copies between rows of elements of any size; slices.Insert by its parts: no statement of a program. -/
set_option linter.unusedSimpArgs false
set_option linter.unusedVariables false
namespace Go.VC
open Go Go.RowKit
section
variable {P : Program}
theorem run_copy_rowS (w : World) (dT sT ty elem : TypeId) (g o dLen dCap : Nat) (a : Addr) (sLen sCap sz : Nat) (cur : Array Value) (t : TypeId) (cs : List Value)
    (hu : P.underlying dT = some (.slice elem)) (hs : (P.info? elem).map (·.size) = some sz)
    (hg : w.heap[g]? = some (.cells cur t (0, 0))) (hn : cs.length = Nat.min sLen dLen * sz)
    (hsrc : ∀ j v, cs[j]? = some v → w.cell? (a.add j) = some v) (hfit : o + cs.length ≤ cur.size) (h1 : ∀ v ∈ cs, v.oneCell' = true) :
    (Builtin.copy_ #[dT, sT] ty #[.slice (some ⟨g, o, none⟩) dLen dCap, .slice (some a) sLen sCap]).run P w =
      .ok (goInt (Nat.min sLen dLen)) (w.setRow g (cur.toList.take o ++ cs ++ cur.toList.drop (o + cs.length)).toArray) := by
  have hl := run_loadCells_list (P := P) w a cs hsrc
  have hst := run_storeCells_at P g o t cs 0 cur w hg (by simpa using hfit) h1
  cases hq : P.info? elem with
  | none => simp [hq] at hs
  | some i =>
    have hi : i.size = sz := by simpa [hq] using hs
    simp [Builtin.copy_, run_underlying hu, Builtin.lenOf, Builtin.firstCells, sizeOf, typeInfo, hq, hi, ← hn, hl, hst]
theorem row_cellS {cur : Array Value} {xs : List Value} {k j : Nat} {v : Value} (h : cur.toList.take k = xs) (hj : xs[j]? = some v) : cur[j]? = some v := by
  rw [← h, List.getElem?_take] at hj
  split at hj
  · simpa using hj
  · cases hj
theorem heap_setRow_ne (w : World) {g b : Nat} (h : b ≠ g) (cs : Array Value) : (w.setRow g cs).heap[b]? = w.heap[b]? := by
  unfold World.setRow
  simp only [Array.getElem?_modify]
  rw [if_neg (Ne.symm h)]
theorem take_app {α : Type} {a b : List α} {k : Nat} (h : k = a.length) : (a ++ b).take k = a := by subst h; exact List.take_left
theorem drop_app {α : Type} {a b : List α} {k : Nat} (h : k = a.length) : (a ++ b).drop k = b := by subst h; exact List.drop_left
/-- A row in place: what is behind moves up, the new ones go between. -/
theorem ins_list1 {cur xs news : List Value} {a p q C : Nat} (hx : xs.length = q) (hl : news.length = p) (hc : cur.length = C) (hC : q + p ≤ C) (ha : a ≤ q) (htk : cur.take q = xs) {cur1 cur2 : List Value}
    (e1 : cur1 = cur.take (a + p) ++ xs.drop a ++ cur.drop (a + p + (xs.drop a).length)) (e2 : cur2 = cur1.take a ++ news ++ cur1.drop (a + news.length)) :
    cur1.length = C ∧ cur2.length = C ∧ cur2.take (q + p) = xs.take a ++ news ++ xs.drop a := by
  have h1 : cur.take a = xs.take a := by rw [← htk, List.take_take, Nat.min_eq_left ha]
  have h2 : cur1.take a = xs.take a := by
    rw [e1, List.append_assoc, List.take_append_of_le_length (by rw [List.length_take]; omega), List.take_take, Nat.min_eq_left (by omega), h1]
  have h3 : cur1.drop (a + p) = xs.drop a ++ cur.drop (a + p + (xs.drop a).length) := by
    rw [e1, List.append_assoc]
    exact drop_app (by rw [List.length_take]; omega)
  have h4 : cur1.length = C := by
    rw [e1]
    simp only [List.length_append, List.length_take, List.length_drop]
    omega
  refine ⟨h4, ?_, ?_⟩
  · rw [e2]
    simp only [List.length_append, List.length_take, List.length_drop, h4, hl]
    omega
  · rw [e2, h2, hl, h3, ← List.append_assoc]
    refine take_app ?_
    simp only [List.length_append, List.length_take, List.length_drop]
    omega
/-- A new row: the front is there; the new ones, then what is behind. -/
theorem ins_list2 {cur xs news zs : List Value} {a p q C : Nat} (hx : xs.length = q) (hl : news.length = p) (hc : cur.length = C) (hC : q + p ≤ C) (ha : a ≤ q) (hz : zs.length = q + p - a) (htk : cur.take (q + p) = xs.take a ++ zs) {cur1 cur2 : List Value}
    (e1 : cur1 = cur.take a ++ news ++ cur.drop (a + news.length)) (e2 : cur2 = cur1.take (a + p) ++ xs.drop a ++ cur1.drop (a + p + (xs.drop a).length)) :
    cur1.length = C ∧ cur2.length = C ∧ cur2.take (q + p) = xs.take a ++ news ++ xs.drop a := by
  have h1 : cur.take a = xs.take a := by
    have : (cur.take (q + p)).take a = xs.take a := by rw [htk]; exact take_app (by rw [List.length_take]; omega)
    rwa [List.take_take, Nat.min_eq_left (by omega)] at this
  have h2 : cur1.take (a + p) = xs.take a ++ news := by
    rw [e1, h1]
    refine take_app ?_
    simp only [List.length_append, List.length_take]
    omega
  have h4 : cur1.length = C := by
    rw [e1]
    simp only [List.length_append, List.length_take, List.length_drop]
    omega
  refine ⟨h4, ?_, ?_⟩
  · rw [e2]
    simp only [List.length_append, List.length_take, List.length_drop, h4]
    omega
  · rw [e2, h2]
    refine take_app ?_
    simp only [List.length_append, List.length_take, List.length_drop]
    omega
/-- A copy whose run is known, as a step of a walk. -/
theorem wp_copyR (w : World) {o : Oper} {a : Act} {K : Act → World → Prop} {Q : Exit → Act → World → Prop} (d s : Operand) (t t' : TypeId)
    (ho : o.op = .call { callee := .builtin .copy, args := #[d, s], argTypes := #[t, t'] }) (v u : Value) (hd : a.eval d = v) (hs : a.eval s = u) {v' : Value} {w' : World}
    (hr : (Builtin.copy_ #[t, t'] o.type #[v, u]).run P w = .ok v' w') (h : K (a.put o.dst v') w') : o.wp P a w K Q := by
  subst hd; subst hs
  simp only [Oper.wp, execOp, ho, resolve, invoke, builtin, Sem.run_bind, Sem.run_pure, Result.andThen_ok, List.map_toArray, List.map_cons, List.map_nil, hr]
  exact h
theorem wpList_copyR (w : World) {ops : Array Oper} {rest : List Oper} {o : Oper} {a : Act} {Q : Exit → Act → World → Prop} (hgd : o.guard = none) (d s : Operand) (t t' : TypeId)
    (ho : o.op = .call { callee := .builtin .copy, args := #[d, s], argTypes := #[t, t'] }) (v u : Value) (hd : a.eval d = v) (hs : a.eval s = u) {v' : Value} {w' : World}
    (hr : (Builtin.copy_ #[t, t'] o.type #[v, u]).run P w = .ok v' w') (h : wpList P ops Q rest (a.put o.dst v') w') : wpList P ops Q (o :: rest) a w :=
  wpList_plain hgd fun _ hK => wp_copyR w d s t t' ho v u hd hs hr (hK _ _ h)
theorem step_copyR {ops : Array Oper} {o : Oper} {a : Act} {w : World} {K : Act → World → Prop} {Q : Exit → Act → World → Prop} {E : Prop} (hg : o.guard = none) (d x : Operand) (t t' : TypeId)
    (hop : o.op = Op.call { callee := Callee.builtin Builtin.copy, args := #[d, x], argTypes := #[t, t'] }) (v u : Value) (hd : a.eval d = v) (hx : a.eval x = u) {v' : Value} {w' : World}
    (hr : (Builtin.copy_ #[t, t'] o.type #[v, u]).run P w = .ok v' w') (hK : K (a.put o.dst v') w') : if Region.wanted o (yielded ops a.tmps) = true then Oper.wp P o a w K Q else E := by
  have hw : Region.wanted o (yielded ops a.tmps) = true := by simp [Region.wanted, hg]
  rw [if_pos hw]
  exact wp_copyR w d x t t' hop v u hd hx hr hK
end
end Go.VC
/- slices.Insert of one element, as a contract, from what it does to the cells: no statement of a program. -/
set_option linter.unusedSimpArgs false
set_option linter.unusedVariables false
namespace Go.VC
open Go Go.RowKit
section
variable {P : Program} {w w' : World} {ω ω' : Lab} {κ κ' : Nat → Value}
/-- The cells in another order. -/
theorem CellsOk.perm {k : Nat} {g : Option Nat} {own : Bool} {cs ds : List IV} {xs ys : List Value} (h : CellsOk w ω k g own cs xs) (f : Nat → Nat) (hl : ds.length = ys.length) (hf : ∀ j, j < ds.length → f j < cs.length) (hinj : ∀ i j, i < ds.length → j < ds.length → f i = f j → i = j)
    (hc : ∀ j, j < ds.length → ds[j]? = cs[f j]?) (hx : ∀ j, j < ds.length → ys[j]? = xs[f j]?) : CellsOk w ω k g own ds ys := by
  unfold CellsOk at *
  cases own with
  | true =>
    simp only [if_true] at *
    obtain ⟨_, Ss, h1, h2, h3⟩ := h
    refine ⟨hl, fun j => Ss (f j), fun j x v hj hv => ?_, fun i j b hi hj hij => ?_, fun j b hj => h3 (f j) b (hf j hj)⟩
    · have hlt := (List.getElem?_eq_some_iff.1 hj).1
      exact h1 (f j) x v (by rw [← hc j hlt]; exact hj) (by rw [← hx j hlt]; exact hv)
    · exact h2 (f i) (f j) b (hf i hi) (hf j hj) fun e => hij (hinj i j hi hj e)
  | false =>
    simp only [Bool.false_eq_true, if_false] at *
    refine ⟨hl, fun j x v hj hv => ?_⟩
    have hlt := (List.getElem?_eq_some_iff.1 hj).1
    exact h.2 (f j) x v (by rw [← hc j hlt]; exact hj) (by rw [← hx j hlt]; exact hv)
theorem ins_get {α : Type} {cs ys : List α} {a p q j : Nat} (hq : cs.length = q) (hp : ys.length = p) (ha : a ≤ q) (hj : j < q + p) :
    (cs.take a ++ ys ++ cs.drop a)[j]? = (cs ++ ys)[if j < a then j else if j < a + p then q + (j - a) else j - p]? := by
  have hta : (cs.take a).length = a := by rw [List.length_take]; omega
  split
  · rename_i h1
    rw [List.append_assoc, List.getElem?_append_left (by omega), List.getElem?_append_left (by omega), List.getElem?_take_of_lt h1]
  · rename_i h1
    split
    · rename_i h2
      rw [List.append_assoc, List.getElem?_append_right (by omega), List.getElem?_append_left (by omega), List.getElem?_append_right (by omega)]
      congr 1; omega
    · rename_i h2
      rw [List.getElem?_append_right (by rw [List.length_append]; omega), List.getElem?_drop, List.getElem?_append_left (by omega)]
      congr 1
      rw [List.length_append]; omega
theorem CellsOk.ins {k : Nat} {g : Option Nat} {own : Bool} {cs ys : List IV} {xs vs : List Value} {a : Nat} (h : CellsOk w ω k g own (cs ++ ys) (xs ++ vs)) (h1 : cs.length = xs.length) (h2 : ys.length = vs.length) (ha : a ≤ cs.length) :
    CellsOk w ω k g own (cs.take a ++ ys ++ cs.drop a) (xs.take a ++ vs ++ xs.drop a) := by
  have hl : (cs.take a ++ ys ++ cs.drop a).length = cs.length + ys.length := by simp only [List.length_append, List.length_take, List.length_drop]; omega
  refine h.perm (fun j => if j < a then j else if j < a + ys.length then cs.length + (j - a) else j - ys.length) (by simp only [List.length_append, List.length_take, List.length_drop]; omega) (fun j hj => ?_) (fun i j hi hj e => ?_) (fun j hj => ?_) (fun j hj => ?_)
  · rw [hl] at hj
    simp only [List.length_append]
    split
    · omega
    · split <;> omega
  · rw [hl] at hi hj
    (try dsimp only at e)
    split at e <;> split at e <;> (try split at e) <;> (try split at e) <;> omega
  · exact ins_get rfl rfl ha (by rw [hl] at hj; exact hj)
  · rw [hl] at hj
    have := ins_get (cs := xs) (ys := vs) (a := a) (j := j) rfl rfl (by omega) (by omega)
    rw [this, ← h1, ← h2]
/-- What slices.Insert of one element does to the cells. -/
def InsRun (P : Program) (g : FuncId) (e : TypeId) (sz B : Nat) : Prop := ∀ (w : World) (v : Value) (n i : Nat) (xs news : List Value) (vb vc : Nat), RowOk w e sz v n xs → i ≤ n → RowOk w e sz (.slice (some ⟨vb, 0, none⟩) 1 vc) 1 news → rowB v ≠ some vb → n ≤ B → (∀ u ∈ xs, u.oneCell' = true) → (∀ u ∈ news, u.oneCell' = true) →
  Calls P g #[v, .int .i64 i, .slice (some ⟨vb, 0, none⟩) 1 vc] w fun e' w' => ∃ v', e' = .returned v' ∧ RowOk w' e sz v' (n + 1) (xs.take (i * sz) ++ news ++ xs.drop (i * sz)) ∧ w.grownBy w' (rowB v) ∧ ∀ b, rowB v' = some b → rowB v = some b ∨ w.heap.size ≤ b
theorem CellsOk.one {k : Nat} {g : Option Nat} {own : Bool} {cs : List IV} {xs : List Value} (h : CellsOk w ω k g own cs xs) : ∀ u ∈ xs, u.oneCell' = true := fun u hu => by
  obtain ⟨j, hj⟩ := List.getElem?_of_mem hu
  have hl : j < cs.length := by rw [h.len]; exact (List.getElem?_eq_some_iff.1 hj).1
  unfold CellsOk at h
  split at h
  · obtain ⟨_, Ss, h1, _⟩ := h
    exact (h1 j cs[j] u (by simp [hl]) hj).one
  · exact (h.2 j cs[j] u (by simp [hl]) hj).one
theorem FnS.insertS {g : FuncId} {e : TypeId} {sz B : Nat} (H : InsRun P g e sz B) (n i : Nat) (cs ys : List IV) (own : Bool) (hi : i ≤ n) (hB : n ≤ B) :
    FnS P g [(1, .vec e sz n cs own), (3, .vec e sz 1 ys own)] [.c (.os 1 n), .c (.im (.sc (.int .i64 i))), .c (.os 3 1)] [(1, .vec e sz (n + 1) (cs.take (i * sz) ++ ys ++ cs.drop (i * sz)) own)] (.c (.os 1 (n + 1))) := by
  intro w ω κ vs hS hω hvs
  obtain ⟨v0, v1, v2, rfl⟩ : ∃ v0 v1 v2, vs = [v0, v1, v2] := by
    have := hvs.1
    match vs, this with
    | [v0, v1, v2], _ => exact ⟨v0, v1, v2, rfl⟩
  have c0 := hvs.2 0 _ v0 rfl rfl
  have c1 := hvs.2 1 _ v1 rfl rfl
  have c2 := hvs.2 2 _ v2 rfl rfl
  have e1 : v1 = .int .i64 i := by
    cases c1 with
    | im _ _ h => cases h; rfl
  subst e1
  obtain ⟨hpos, xs, hr1, hl1, hc1⟩ := hS.ob 1 _ rfl
  obtain ⟨_, news, hr2, hl2, hc2⟩ := hS.ob 3 _ rfl
  have k0 : v0 = κ 1 := by
    cases c0 with
    | os _ _ a c hnc hz hk => exact ((hk _ _ rfl rfl).2 rfl).symm
  have k2 : v2 = κ 3 := by
    cases c2 with
    | os _ _ a c hnc hz hk => exact ((hk _ _ rfl rfl).2 rfl).symm
  subst k0; subst k2
  obtain ⟨_, h | ⟨vb, cap2, cur2, e2, hcp2, hg2, hn2, hm2, hsz2, htk2⟩⟩ := id hr2
  · exact absurd h.1 (by simp)
  have hωv : ω vb = .ob 3 := hl2 vb (by rw [e2]; exact rowB_some hcp2)
  have hne : rowB (κ 1) ≠ some vb := fun e => by have := hl1 vb e; rw [hωv] at this; cases this
  rw [e2] at hr2 ⊢
  refine (H w (κ 1) n i xs news vb cap2 hr1 hi hr2 hne hB hc1.one hc2.one).mono fun e' w' ⟨v', he, hr, hg, hb⟩ => ?_
  subst he
  have hlt : ∀ b, rowB v' = some b → b < w'.heap.size := fun b hb => hr.lt hb
  obtain ⟨a', c', hsl, hs1, hs2, hs3⟩ := hr.slice
  have hsrc : Src w ω [3] own ys news := by
    unfold Src
    unfold CellsOk at hc2
    cases own with
    | true =>
      simp only [if_true] at *
      obtain ⟨g0, Ss, g1, g2, g3⟩ := hc2
      exact ⟨g0, Ss, g1, g2, fun j b hj hb => ⟨3, by simp, (g3 j b hj hb).1⟩⟩
    | false => exact hc2
  have hlab : ∀ b l, ω b = l → l ≠ .no → l ≠ .ob 1 → rowB v' ≠ some b := fun b l hbl h1 h2 e => by
    rcases hb b e with h3 | h3
    · exact h2 (hbl ▸ hl1 b h3)
    · have := hS.dom b (by rw [hbl]; exact h1); omega
  have hadd : CellsOk w' (rowL ω [3] 1 v') 1 (rowB v') own (cs ++ ys) (xs ++ news) :=
    hc1.add hsrc (by simp) hl1 hb (fun b hbn hbg => hg.block b (hS.dom b hbn) hbg) hS.dom fun b hbl => by
      unfold rowL
      split
      · rename_i hbv
        rcases hb b hbv with h1 | h1
        · exact (relab_k (hl1 b h1)).symm
        · omega
      · rfl
  refine ⟨v', rowL ω [3] 1 v', setK κ 1 v', rfl, Turn.grown hg (fun b hb => ⟨1, hl1 b hb⟩) (fun b hbi => ?_) (fun b hbl hno => ?_), ⟨fun k o ho => ?_, fun b hbn => ?_⟩, ?_, fun k hk => ?_⟩
  · unfold rowL; rw [if_neg (hlab b _ hbi (by simp) (by simp))]; exact relab_im hbi
  · unfold rowL
    rw [if_neg fun e => ?_]
    · exact relab_no hno
    · rcases hb b e with h3 | h3
      · rw [hl1 b h3] at hno; cases hno
      · omega
  · rw [get_cons] at ho
    split at ho
    · rename_i ek
      subst ek
      obtain rfl := Option.some.inj ho
      refine ⟨hpos, _, by rw [setK_eq]; exact hr, fun b hbv => ?_, ?_⟩
      · rw [setK_eq] at hbv; unfold rowL; rw [if_pos hbv]
      · rw [setK_eq]
        exact hadd.ins hc1.len hc2.len (by rw [hc1.len, hr1.1]; exact Nat.mul_le_mul_right sz hi)
    · cases ho
  · unfold rowL at hbn
    split at hbn
    · rename_i e; exact hlt b e
    · exact Nat.lt_of_lt_of_le (hS.dom b (relab_no' hbn)) hg.size
  · rw [hsl]
    exact .os 1 _ a' c' hs1 hs3 fun o m ho hm => by
      rw [get_cons, if_pos rfl] at ho
      obtain rfl := Option.some.inj ho
      obtain rfl := Option.some.inj hm
      exact ⟨Nat.le_refl _, fun _ => by rw [setK_eq]⟩
  · by_cases h1 : k = 1
    · subst h1
      refine ⟨fun hst => ?_, fun o' m' ho' hm' => ?_⟩
      · obtain ⟨a0, c0, hs0, _⟩ := hr1.slice
        rw [hs0] at hst; cases hst
      · rw [get_cons, if_pos rfl] at ho'
        obtain rfl := Option.some.inj ho'
        obtain rfl := Option.some.inj hm'
        exact ⟨_, n, rfl, rfl, by omega, fun e => by omega⟩
    · refine ⟨fun _ => setK_ne κ v' h1, fun o' m' ho' _ => ?_⟩
      rw [get_cons, if_neg h1] at ho'; cases ho'
end
end Go.VC
/- A row that grew into a new one keeps its name: no statement of a program. -/
set_option linter.unusedSimpArgs false
set_option linter.unusedVariables false
namespace Go.VC
open Go Go.RowKit
theorem FnS.back {P : Program} {g : FuncId} {e e' : TypeId} {sz sz' n n' : Nat} {cs cs' : List IV} {own own' : Bool} {k : Nat} {ys : List TV}
    (h : FnS P g [(1, .vec e sz n cs own)] ys [(k, .vec e' sz' n' cs' own')] (.c (.os k n'))) (hn : n < n') : FnS P g [(1, .vec e sz n cs own)] ys [(1, .vec e' sz' n' cs' own')] (.c (.os 1 n')) := by
  obtain ⟨p, hp⟩ := pm1 k 1
  intro w ω κ vs hS hω hvs
  refine (h w ω κ vs hS hω hvs).mono fun e w' ⟨v, ω', κ', he, ht, hS', hr, hk⟩ => ⟨v, renW p.f ω', fun k => κ' (p.g k), he, ⟨ht.os, ht.tape, ht.output, ht.size, ht.block, fun b hb => renW_im (ht.im b hb), fun b hb hn => by unfold renW; rw [ht.no b hb hn]⟩, ?_, ?_, fun j hj => ?_⟩
  · have := hS'.ren p.gf
    simpa [renS, Ob.ren, hp] using this
  · have := hr.ren (f := p.f) (g := p.g) p.gf
    simpa [renS, Ob.ren, TV.ren, Cell.ren, hp] using this
  · have e1 : j = 1 := by
      by_cases e1 : j = 1
      · exact e1
      · simp [get, e1, Ne.symm e1] at hj
    subst e1
    refine ⟨fun hs => ?_, fun o' m' ho hm => ⟨_, n, by simp [get]; rfl, rfl, ?_, ?_⟩⟩
    · obtain ⟨_, xs, h1, _⟩ := hS.ob 1 _ (show get _ 1 = some _ by simp [get]; rfl)
      rcases h1.2 with ⟨_, a, e0⟩ | ⟨g0, cap, cur, e0, _⟩
      · rw [e0] at hs; simp [stay] at hs
      · rw [e0] at hs; simp [stay] at hs
    · simp [get] at ho
      subst ho
      simp [Ob.len?] at hm
      omega
    · simp [get] at ho
      subst ho
      simp [Ob.len?] at hm
      omega
end Go.VC
/- Tuples of objects as tuples of trees: no statement of a program. -/
set_option linter.unusedSimpArgs false
set_option linter.unusedVariables false
namespace Go.VC
open Go Go.RowKit
@[simp] theorem imKeys (v : IV) : (Cell.im v).keys = [] := rfl
theorem anyTV (x : TV) (l : List TV) (p : TV → Bool) : (x :: l).any p = (p x || l.any p) := rfl
theorem anyTV0 (p : TV → Bool) : ([] : List TV).any p = false := rfl
theorem argTs_get {σ : Sto} : ∀ {ts us : List TV}, argTs σ ts = some us → us.length = ts.length ∧ ∀ (j : Nat) (y : TV), us[j]? = some y → ∃ x, ts[j]? = some x ∧ argT σ x = some y
  | [], us, h => by obtain rfl := Option.some.inj h; exact ⟨rfl, fun j y h => by simp at h⟩
  | x :: r, us, h => by
    simp only [argTs] at h
    obtain ⟨y, hy, h⟩ := Option.bind_eq_some_iff.1 h
    obtain ⟨zs, hz, rfl⟩ := Option.map_eq_some_iff.1 h
    obtain ⟨h1, h2⟩ := argTs_get hz
    refine ⟨by simp [h1], fun j u hj => ?_⟩
    cases j with
    | zero => simp only [List.getElem?_cons_zero, Option.some.injEq] at hj; subst hj; exact ⟨x, rfl, hy⟩
    | succ j => rw [List.getElem?_cons_succ] at hj; obtain ⟨z, h3, h4⟩ := h2 j u hj; exact ⟨z, by rw [List.getElem?_cons_succ]; exact h3, h4⟩
/-- Results that are trees. -/
theorem FnS.treeP {P : Program} {g : FuncId} {ys : List TV} {σ1 : Sto} {ts us : List TV} (h : FnS P g [] ys σ1 (.tp ts)) (hr : argTs σ1 ts = some us) : FnS P g [] ys [] (.tp us) := by
  intro w ω κ vs hS hω hvs
  refine (h w ω κ vs hS hω hvs).mono fun e w' ⟨v, ω', κ', he, ht, hS', hrv, hk⟩ => ⟨v, allIm ω', κ', he, ⟨ht.os, ht.tape, ht.output, ht.size, ht.block, fun b hb => allIm_im (ht.im b hb), fun b hb hn => by unfold allIm; rw [ht.no b hb hn]⟩, ⟨fun k o ho => (by rw [get_nil] at ho; cases ho), fun b hb => hS'.dom b fun e => hb (by unfold allIm; rw [e])⟩, ?_, fun k hk' => (by rw [get_nil] at hk'; cases hk')⟩
  obtain ⟨us', rfl, g1, g2⟩ := hrv
  obtain ⟨hlen, hget⟩ := argTs_get hr
  refine ⟨us', rfl, hlen.trans g1, fun j y v hy hv => ?_⟩
  obtain ⟨x, hx, hxy⟩ := hget j y hy
  have hxv := g2 j x v hx hv
  cases x with
  | c x =>
    obtain ⟨z, hz, rfl⟩ := Option.map_eq_some_iff.1 hxy
    exact .im _ _ (toIV_ok hS' hxv hz)
  | ag cs =>
    obtain ⟨zs, hz, rfl⟩ := Option.map_eq_some_iff.1 hxy
    obtain ⟨us, rfl, g1, g2⟩ := hxv
    have := toIVL_ok hS' hz g1
    refine ⟨us, rfl, ⟨by simp [this.1], fun j p q hp hq => ?_⟩, g2⟩
    rw [List.getElem?_map] at hp
    obtain ⟨z, hz', rfl⟩ := Option.map_eq_some_iff.1 hp
    exact .im _ _ (this.2 j z q hz' hq)
  | tp ts => cases hxy
end Go.VC
