/- Drawn regions whose reads may come late, wherever they stand in the numbering: no statement of a program. -/
import Derived.Test.YtepmlphjnppajaaGW3
set_option linter.unusedSimpArgs false
set_option linter.unusedVariables false
namespace Go.VC
open Go Go.RowKit
section
variable {β : Base} {w w' : World} {ω ω' : Lab} {κ κ' : Nat → Value} {σ σ' : Sto} {E E' : Env} {a a' : Act} {s : St} {P : Program}
/-- The chain's places. -/
def chI (ops : Array Oper) (iq : Nat → Bool) : List Nat := (List.range ops.size).filter fun i => !iq i
def chO (ops : Array Oper) (iq : Nat → Bool) : List Oper := (chI ops iq).filterMap fun i => ops[i]?
def quO (ops : Array Oper) (iq : Nat → Bool) : List Oper := ((List.range ops.size).filter iq).filterMap fun i => ops[i]?
theorem mem_quO {ops : Array Oper} {iq : Nat → Bool} {o : Oper} : o ∈ quO ops iq ↔ ∃ i, iq i = true ∧ ops[i]? = some o := by
  unfold quO
  simp only [List.mem_filterMap, List.mem_filter, List.mem_range]
  constructor
  · rintro ⟨i, ⟨_, h1⟩, h2⟩; exact ⟨i, h1, h2⟩
  · rintro ⟨i, h1, h2⟩; exact ⟨i, ⟨(Array.getElem?_eq_some_iff.1 h2).1, h1⟩, h2⟩
def lateQB (ops : Array Oper) (iq : Nat → Bool) (f : Nat) (LL : List (List Nat)) : Bool := waitB ops 0 && lateB ops (quO ops iq) &&
  ((List.range ops.size).all fun i => !iq i || match ops[i]? with
    | some o => (o.looksAt ops).all fun t => (List.range ops.size).all fun j => !iq j || match ops[j]? with
      | some q => q.dst != some t || o.after.any fun e => Region.binds .any e && e.on == j
      | none => true
    | none => true) &&
  (List.range (chI ops iq).length).all fun m => (decide (m = 0) || befB ops f ((chI ops iq).getD m 0) ((chI ops iq).getD (m - 1) 0)) && match ops[(chI ops iq).getD m 0]? with
    | some o => o.guard.isNone && (match o.op with | .select .. => false | _ => true) &&
        ((o.looksAt ops).all fun t => (List.range ops.size).all fun j => !iq j || match ops[j]? with
          | some q => q.dst != some t || o.after.any fun e => Region.binds .any e && e.on == j
          | none => true) &&
        (List.range ops.size).all fun j => !iq j || befB ops f ((chI ops iq).getD m 0) j || ((match ops[j]? with | some q => plainB q.op | none => true) && (LL.getD m []).contains j)
    | none => true
/-- The variables that are still missing. -/
def MissQ (ops : Array Oper) (iq : Nat → Bool) (listed : Array Bool) (t : Nat) : Prop := ∃ j o, iq j = true ∧ listed.getD j true = false ∧ ops[j]? = some o ∧ o.dst = some t
def WroteQ (ops : Array Oper) (iq : Nat → Bool) (listed : Array Bool) (t : Nat) : Prop := ∃ j o, iq j = true ∧ listed.getD j false = true ∧ ops[j]? = some o ∧ o.dst = some t
def MixQ (ops : Array Oper) (iq : Nat → Bool) (listed : Array Bool) (E F E' : Env) : Prop := ∀ t, (WroteQ ops iq listed t → get E' t = get F t) ∧ (¬ WroteQ ops iq listed t → get E' t = get E t)
/-- What is known of the form. -/
structure LQ (ops : Array Oper) (iq : Nat → Bool) (f : Nat) (LL : List (List Nat)) : Prop where
  back : waitB ops 0 = true
  looks : ∀ i o, iq i = true → ops[i]? = some o → ∀ t ∈ o.looksAt ops, ∀ j q, iq j = true → ops[j]? = some q → q.dst = some t → ∃ e ∈ o.after, Region.binds .any e = true ∧ e.on = j
  prev : ∀ m i p, (chI ops iq)[m + 1]? = some i → (chI ops iq)[m]? = some p → befB ops f i p = true
  chain : ∀ m i o, (chI ops iq)[m]? = some i → ops[i]? = some o → o.guard = none ∧ (∀ cs b, o.op ≠ .select cs b) ∧ (∀ t ∈ o.looksAt ops, ∀ j q, iq j = true → ops[j]? = some q → q.dst = some t → ∃ e ∈ o.after, Region.binds .any e = true ∧ e.on = j) ∧
    ∀ j q, iq j = true → ops[j]? = some q → befB ops f i j = true ∨ (plainB q.op = true ∧ j ∈ LL.getD m [])
theorem LQ.of {ops : Array Oper} {iq : Nat → Bool} {f : Nat} {LL : List (List Nat)} (hb : lateQB ops iq f LL = true) : LQ ops iq f LL := by
  simp only [lateQB, Bool.and_eq_true] at hb
  obtain ⟨⟨⟨h1, _⟩, h2⟩, h3⟩ := hb
  have hedge : ∀ {o : Oper} {t j : Nat} {q : Oper}, iq j = true → ops[j]? = some q → q.dst = some t → ((List.range ops.size).all fun j => !iq j || match ops[j]? with
          | some q => q.dst != some t || o.after.any fun e => Region.binds .any e && e.on == j
          | none => true) = true → ∃ e ∈ o.after, Region.binds .any e = true ∧ e.on = j := fun {o t j q} hj hq hd h => by
    have h4 := List.all_eq_true.1 h j (List.mem_range.2 (Array.getElem?_eq_some_iff.1 hq).1)
    simp only [hj, hq, hd, Bool.not_true, Bool.false_or, Bool.or_eq_true] at h4
    rcases h4 with h4 | h4
    · simp at h4
    · obtain ⟨e, he, hb⟩ := Array.any_eq_true'.1 h4
      simp only [Bool.and_eq_true, beq_iff_eq] at hb
      exact ⟨e, he, hb.1, hb.2⟩
  have hget : ∀ {m i : Nat}, (chI ops iq)[m]? = some i → (chI ops iq).getD m 0 = i ∧ m < (chI ops iq).length := fun {m i} h => ⟨by simp [List.getD, h], (List.getElem?_eq_some_iff.1 h).1⟩
  refine ⟨h1, fun i o hi ho t ht j q hj hq hd => ?_, fun m i p hi hp => ?_, fun m i o hi ho => ?_⟩
  · have h4 := List.all_eq_true.1 h2 i (List.mem_range.2 (Array.getElem?_eq_some_iff.1 ho).1)
    simp only [hi, ho, Bool.not_true, Bool.false_or] at h4
    exact hedge hj hq hd (List.all_eq_true.1 h4 t ht)
  · have h4 := List.all_eq_true.1 h3 (m + 1) (List.mem_range.2 (hget hi).2)
    simp only [Bool.and_eq_true, Bool.or_eq_true, decide_eq_true_eq, (hget hi).1, Nat.add_sub_cancel, (hget hp).1] at h4
    exact h4.1.resolve_left (by omega)
  · have h4 := (Bool.and_eq_true_iff.1 (List.all_eq_true.1 h3 m (List.mem_range.2 (hget hi).2))).2
    simp only [(hget hi).1, ho, Bool.and_eq_true, Option.isNone_iff_eq_none] at h4
    obtain ⟨⟨⟨g1, g2⟩, g3⟩, g4⟩ := h4
    refine ⟨g1, fun cs b e => (by rw [e] at g2; cases g2), fun t ht j q hj hq hd => hedge hj hq hd (List.all_eq_true.1 g3 t ht), fun j q hj hq => ?_⟩
    have h5 := List.all_eq_true.1 g4 j (List.mem_range.2 (Array.getElem?_eq_some_iff.1 hq).1)
    simp only [hj, hq, Bool.not_true, Bool.false_or, Bool.or_eq_true, Bool.and_eq_true, List.contains_eq_mem, decide_eq_true_eq] at h5
    exact h5

theorem chI_mem {ops : Array Oper} {iq : Nat → Bool} {i : Nat} (hil : i < ops.size) (hi : iq i = false) : ∃ m : Nat, (chI ops iq)[m]? = some i := by
  have : i ∈ chI ops iq := by unfold chI; exact List.mem_filter.2 ⟨List.mem_range.2 hil, by simp [hi]⟩
  exact List.mem_iff_getElem?.1 this
theorem chI_at {ops : Array Oper} {iq : Nat → Bool} {m i : Nat} (h : (chI ops iq)[m]? = some i) : i < ops.size ∧ iq i = false := by
  have := List.mem_of_getElem? h
  unfold chI at this
  obtain ⟨h1, h2⟩ := List.mem_filter.1 this
  exact ⟨List.mem_range.1 h1, by simpa using h2⟩
theorem chI_inj {ops : Array Oper} {iq : Nat → Bool} {m m' i : Nat} (h : (chI ops iq)[m]? = some i) (h' : (chI ops iq)[m']? = some i) : m = m' := by
  have hn : (chI ops iq).Nodup := List.Pairwise.filter _ List.nodup_range
  obtain ⟨h1, h2⟩ := List.getElem?_eq_some_iff.1 h
  obtain ⟨h3, h4⟩ := List.getElem?_eq_some_iff.1 h'
  have hp := List.pairwise_iff_getElem.1 hn
  rcases Nat.lt_trichotomy m m' with g | g | g
  · exact absurd (h2.trans h4.symm) (hp m m' h1 h3 g)
  · exact g
  · exact absurd (h4.trans h2.symm) (hp m' m h3 h1 g)
theorem tail_anyQ {ops : Array Oper} {iq : Nat → Bool} {f : Nat} {LL : List (List Nat)} {Q : Exit → Act → World → Prop} {K : St → Prop} (hb : LQ ops iq f LL) (hn : ∀ s' a' w', K s' → RelE β s' a' w' → Q .normal a' w') :
    ∀ (fuel k : Nat) (listed : Array Bool) (s : St) (a a2 : Act) (w : World), k ≤ (chI ops iq).length → listed.size = ops.size → ClosedL ops listed → (∀ m i, (chI ops iq)[m]? = some i → listed.getD i true = decide (m < k)) →
      (((List.range ops.size).filter fun j => !listed.getD j true).length ≤ fuel) → Ag (MissQ ops iq listed) a a2 → RelE β s a2 w → (∀ j o, iq j = true → listed.getD j true = false → ops[j]? = some o → plainB o.op = true ∧ SolX P ops s.σ s.N s.E o) →
      opsM P ops (LL.drop k) (((chI ops iq).drop k).filterMap fun i => ops[i]?) s K → wpAny P .any ops Q fuel listed a w := by
  obtain ⟨hw, hlooks, hprev, hchain⟩ := hb
  have hfin : ∀ (k : Nat) (listed : Array Bool) (s : St) (a a2 : Act) (w : World), k ≤ (chI ops iq).length → (∀ m i, (chI ops iq)[m]? = some i → listed.getD i true = decide (m < k)) → Ag (MissQ ops iq listed) a a2 → RelE β s a2 w →
      opsM P ops (LL.drop k) (((chI ops iq).drop k).filterMap fun i => ops[i]?) s K → (∀ j, j < ops.size → listed.getD j true = true) → Q .normal a w := fun k listed s a a2 w hk hl hag hr hop hall => by
    have hke : k = (chI ops iq).length := by
      rcases Nat.lt_or_ge k (chI ops iq).length with h | h
      · have h0 : (chI ops iq)[k]? = some (chI ops iq)[k] := by simp [h]
        have h1 := hl k _ h0
        rw [hall _ (chI_at h0).1] at h1
        simp at h1
      · omega
    subst hke
    rw [List.drop_of_length_le (l := chI ops iq) (by simp)] at hop
    refine hn s a w (by cases hd : LL.drop (chI ops iq).length <;> (rw [hd] at hop; exact hop)) (hag.rel (fun t ⟨j, o, hj, hu, ho, _⟩ => ?_) hr)
    rw [hall j (Array.getElem?_eq_some_iff.1 ho).1] at hu
    cases hu
  intro fuel
  induction fuel with
  | zero =>
    intro k listed s a a2 w hk hsz hcl hl hf hag hr hsol hop
    have hall : ∀ j, j < ops.size → listed.getD j true = true := fun j hj => by
      cases hl : listed.getD j true with
      | true => rfl
      | false =>
        have : j ∈ (List.range ops.size).filter fun j => !listed.getD j true := List.mem_filter.2 ⟨List.mem_range.2 hj, by simp [hl]⟩
        have := List.length_pos_of_mem this
        omega
    refine ⟨?_, hfin k listed s a a2 w hk hl hag hr hop hall⟩
    apply List.eq_nil_iff_forall_not_mem.2
    intro j hj
    obtain ⟨h1, o, ho, _⟩ := mem_ready.1 hj
    rw [hall j (Array.getElem?_eq_some_iff.1 ho).1] at h1
    cases h1
  | succ fuel ih =>
    intro k listed s a a2 w hk hsz hcl hl hf hag hr hsol hop
    refine ⟨fun hnil => hfin k listed s a a2 w hk hl hag hr hop fun j hj => ?_, fun i hi => ?_⟩
    · cases hu : listed.getD j true with
      | true => rfl
      | false =>
        obtain ⟨j1, hj1, _⟩ := ready_least hw hsz j hj hu
        rw [hnil] at hj1; cases hj1
    · obtain ⟨hui, o, ho, hall⟩ := mem_ready.1 hi
      have hil : i < ops.size := (Array.getElem?_eq_some_iff.1 ho).1
      have hcount := count_set hil hsz hui hf
      have hcl' := hcl.set ho hall
      have hnone : ∀ {j : Nat}, j < ops.size → listed.getD j true = false → listed.getD j false = true → False := fun {j} hj h1 h2 => by
        have : j < listed.size := by omega
        simp [this] at h1 h2
        rw [h1] at h2; cases h2
      cases hin : iq i with
      | true =>
        obtain ⟨hpl, d, r, hd, hdN, hG, hsl⟩ := hsol i o hin hui ho
        have hlk : ∀ t ∈ o.looksAt ops, ¬ MissQ ops iq listed t := fun t ht ⟨j, q, hj, hu, hq, hdq⟩ => by
          obtain ⟨e, he, hb, hon⟩ := hlooks i o hin ho t ht j q hj hq hdq
          exact hnone (Array.getElem?_eq_some_iff.1 hq).1 hu (hon ▸ hall e he hb)
        obtain ⟨ω, κ, hr'⟩ := id hr
        have key : ∀ u, RT w ω κ s.σ r u → wpAny P .any ops Q fuel (listed.setIfInBounds i true) (a.put (some d) u) w := fun u hu => by
          refine ih k _ s _ (a2.put (some d) u) w hk (by simp [hsz]) hcl' (fun m c hc => ?_) hcount ?_ ?_ (fun j q hj hq hqo => ?_) hop
          · rw [getD_set_ne true fun e => by have := (chI_at hc).2; rw [← e, hin] at this; cases this]; exact hl m c hc
          · refine hag.less (fun t ⟨j, q, hj, hu, hq, hdq⟩ => ?_) u (by rw [← hag.2.1, hr'.size]; exact hdN)
            by_cases hij : i = j
            · subst hij
              have : q = o := Option.some.inj (hq.symm.trans ho)
              subst this
              rw [hd] at hdq
              exact .inr (Option.some.inj hdq).symm
            · exact .inl ⟨j, q, hj, by rw [getD_set_ne true hij]; exact hu, hq, hdq⟩
          · refine RelE.weak ⟨ω, κ, hr'.put hdN hu⟩ ⟨rfl, fun t x hx => ?_, fun _ _ h => h⟩
            rw [get_cons]
            split
            · rename_i e; subst e; rw [hG] at hx; exact hx
            · exact hx
          · refine hsol j q hj ?_ hqo
            by_cases hij : i = j
            · subst hij
              have : i < listed.size := by omega
              simp [this] at hq
            · rw [getD_set_ne true hij] at hq; exact hq
        unfold wpOp
        simp only [ho]
        rw [hag.wanted hlk]
        rcases hsl with ⟨hg, hq⟩ | ⟨hg, rfl⟩
        · rw [if_pos (gdOf_ok hr'.env hg)]
          obtain ⟨u, g1, g2⟩ := ev1_ok (P := P) (o := o) hr'.rs hr'.env (plain_ev hpl hq)
          refine .inl ?_
          unfold Oper.wp
          rw [execOp_congr o (fun cs b e => by rw [e] at hpl; simp [plainB] at hpl) (hag.eval hlk), g1, Oper.upon_value, hd]
          exact key u g2
        · have hf' := gdOf_ok hr'.env hg
          rw [if_neg (by rw [hf']; simp), hd]
          exact key _ ⟨[], rfl, rfl, by simp⟩
      | false =>
        obtain ⟨m, hm⟩ := chI_mem hil hin
        have hmk : m = k := by
          have h1 := hl m i hm
          rw [hui] at h1
          have h1 : ¬ m < k := by simpa using h1.symm
          rcases Nat.lt_or_ge k m with h | h
          · have hp : (chI ops iq)[m - 1]? = some ((chI ops iq)[m - 1]'(by have := (List.getElem?_eq_some_iff.1 hm).1; omega)) := by
              rw [List.getElem?_eq_getElem]
            have hbf := hprev (m - 1) i _ (by rw [show m - 1 + 1 = m by omega]; exact hm) hp
            have h2 := bef_ok hcl f i _ o ho hall hbf
            have h3 := hl (m - 1) _ hp
            have h4 : m - 1 < k := by
              have : listed.getD ((chI ops iq)[m - 1]'(by have := (List.getElem?_eq_some_iff.1 hm).1; omega)) true = true := by
                cases h5 : listed.getD ((chI ops iq)[m - 1]'(by have := (List.getElem?_eq_some_iff.1 hm).1; omega)) true with
                | true => rfl
                | false => exact (hnone (chI_at hp).1 h5 h2).elim
              rw [this] at h3
              simpa using h3.symm
            omega
          · omega
        subst hmk
        obtain ⟨hgu, hns', hlook, hlate⟩ := hchain m i o hm ho
        have hlk : ∀ t ∈ o.looksAt ops, ¬ MissQ ops iq listed t := fun t ht ⟨j, q, hj, hu, hq, hdq⟩ => by
          obtain ⟨e, he, hb, hon⟩ := hlook t ht j q hj hq hdq
          exact hnone (Array.getElem?_eq_some_iff.1 hq).1 hu (hon ▸ hall e he hb)
        have hdrop : ((chI ops iq).drop m).filterMap (fun i => ops[i]?) = o :: ((chI ops iq).drop (m + 1)).filterMap fun i => ops[i]? := by
          have hlt := (List.getElem?_eq_some_iff.1 hm).1
          rw [List.drop_eq_getElem_cons hlt, (List.getElem?_eq_some_iff.1 hm).2, List.filterMap_cons, ho]
        rw [hdrop] at hop
        have hop : wpO P o s fun s' => solI P ops s' ((LL.drop m).headD []) ∧ opsM P ops (LL.drop m).tail (((chI ops iq).drop (m + 1)).filterMap fun i => ops[i]?) s' K := by
          cases hd : LL.drop m <;> (rw [hd] at hop; exact hop)
        have hhd : (LL.drop m).headD [] = LL.getD m [] := by
          rw [List.headD_eq_head?_getD, List.head?_drop]; rfl
        rw [hhd, List.tail_drop] at hop
        unfold wpOp
        simp only [ho]
        rw [if_pos (by simp [Region.wanted, hgu])]
        have hsim := wp_sim (Q := Q) hns' hlk hag (wpO_ok (next := fun a' w' => ∃ s', (solI P ops s' (LL.getD m []) ∧ opsM P ops (LL.drop (m + 1)) (((chI ops iq).drop (m + 1)).filterMap fun i => ops[i]?) s' K) ∧ RelE β s' a' w') (Q := fun e _ w => ∀ a, Q e a w) hop hr fun s' a' w' h1 h2 => ⟨s', h1, h2⟩)
        refine .inl (Oper.wp_mono (fun a1 w1 h => ?_) hsim)
        obtain ⟨a3, hag3, s', ⟨hso, hK⟩, hr3⟩ := h
        have hmiss : ∀ {j : Nat}, iq j = true → (listed.setIfInBounds i true).getD j true = listed.getD j true := fun {j} hj => getD_set_ne true fun e => by rw [e, hj] at hin; cases hin
        refine ih (m + 1) _ s' a1 a3 w1 (by have := (List.getElem?_eq_some_iff.1 hm).1; omega) (by simp [hsz]) hcl' (fun m' c hc => ?_) hcount ⟨hag3.1, hag3.2.1, fun t ht => hag3.2.2 t fun ⟨j, q, hj, hu, hq⟩ => ht ⟨j, q, hj, by rw [hmiss hj]; exact hu, hq⟩⟩ hr3 (fun j q hj hu hq => ?_) hK
        · by_cases hic : i = c
          · subst hic
            have := chI_inj hm hc
            subst this
            simp [hsz, hil]
          · rw [getD_set_ne true hic, hl m' c hc]
            have : m' ≠ m := fun e => hic (by subst e; exact Option.some.inj (hm.symm.trans hc))
            simp only [decide_eq_decide]; omega
        · rw [hmiss hj] at hu
          rcases hlate j q hj hq with h1 | ⟨h1, h2⟩
          · exact (hnone (Array.getElem?_eq_some_iff.1 hq).1 hu (bef_ok hcl f i j o ho hall h1)).elim
          · exact ⟨h1, solE_ok h1 (solI_mem hq hso h2)⟩

theorem MixQ.set {ops : Array Oper} {iq : Nat → Bool} {i d : Nat} {L : Array Bool} {F : Env} {o : Oper} {r : TV} (hmix : MixQ ops iq L E F E') (ho : ops[i]? = some o) (hin : iq i = true) (hsz : L.size = ops.size) (hd : o.dst = some d) (hF : get F d = some r) :
    MixQ ops iq (L.setIfInBounds i true) E F ((d, r) :: E') := fun t => by
  have hil : i < ops.size := (Array.getElem?_eq_some_iff.1 ho).1
  have hset : (L.setIfInBounds i true).getD i false = true := by simp [hsz, hil]
  by_cases htd : t = d
  · subst htd
    exact ⟨fun _ => by rw [get_cons, if_pos rfl, hF], fun h => absurd ⟨i, o, hin, hset, ho, hd⟩ h⟩
  · have hiff : WroteQ ops iq (L.setIfInBounds i true) t ↔ WroteQ ops iq L t := by
      constructor
      · rintro ⟨j, q, h1, h2, h3, h4⟩
        by_cases hij : i = j
        · subst hij
          have : q = o := Option.some.inj (h3.symm.trans ho)
          subst this
          rw [hd] at h4
          exact absurd (Option.some.inj h4).symm htd
        · exact ⟨j, q, h1, by rwa [getD_set_ne false hij] at h2, h3, h4⟩
      · rintro ⟨j, q, h1, h2, h3, h4⟩
        by_cases hij : i = j
        · subst hij; exact ⟨i, q, h1, hset, h3, h4⟩
        · exact ⟨j, q, h1, by rw [getD_set_ne false hij]; exact h2, h3, h4⟩
    rw [get_cons, if_neg htd, hiff]
    exact hmix t
theorem MixQ.looks {ops : Array Oper} {iq : Nat → Bool} {f i : Nat} {LL : List (List Nat)} {L : Array Bool} {F : Env} {o : Oper} (hb : LQ ops iq f LL) (hout : ∀ t, (∀ o ∈ quO ops iq, o.dst ≠ some t) → get F t = get E t) (hmix : MixQ ops iq L E F E') (ho : ops[i]? = some o) (hin : iq i = true)
    (hall : ∀ e ∈ o.after, Region.binds .any e = true → iq e.on = true → L.getD e.on false = true) : ∀ t ∈ o.looksAt ops, get F t = get E' t := fun t ht => by
  by_cases hwr : WroteQ ops iq L t
  · exact ((hmix t).1 hwr).symm
  · rw [(hmix t).2 hwr, hout t fun q hq he => ?_]
    obtain ⟨j, hj, hj'⟩ := mem_quO.1 hq
    obtain ⟨e, he1, hbd, hon⟩ := hb.looks i o hin ho t ht j q hj hj' he
    exact hwr ⟨j, q, hj, by rw [← hon]; exact hall e he1 hbd (by rw [hon]; exact hj), hj', he⟩
theorem MixQ.full {ops : Array Oper} {iq : Nat → Bool} {L : Array Bool} {F : Env} (hout : ∀ t, (∀ o ∈ quO ops iq, o.dst ≠ some t) → get F t = get E t) (hmix : MixQ ops iq L E F E') (hall : ∀ j, j < ops.size → iq j = true → L.getD j false = true) : ∀ t, get E' t = get F t := fun t => by
  by_cases hwr : WroteQ ops iq L t
  · exact (hmix t).1 hwr
  · rw [(hmix t).2 hwr, hout t fun q hq he => hwr ?_]
    obtain ⟨j, hj, hj'⟩ := mem_quO.1 hq
    exact ⟨j, q, hj, hall j (Array.getElem?_eq_some_iff.1 hj').1 hj, hj', he⟩
/-- The missing reads, read at once. -/
theorem virtQ {ops : Array Oper} {iq : Nat → Bool} {f : Nat} {LL : List (List Nat)} {listed : Array Bool} {F : Env} (hb : LQ ops iq f LL) (hsz : listed.size = ops.size) (hout : ∀ t, (∀ o ∈ quO ops iq, o.dst ≠ some t) → get F t = get s.E t)
    (hsol : ∀ i o, iq i = true → ops[i]? = some o → SolX P ops s.σ s.N F o) (hpl : ∀ i o, iq i = true → listed.getD i true = false → ops[i]? = some o → plainB o.op = true) (hmix : MixQ ops iq listed s.E F E') (hr : RelE β ⟨s.N, E', s.σ⟩ a w) :
    ∃ a2, Ag (MissQ ops iq listed) a a2 ∧ RelE β ⟨s.N, F, s.σ⟩ a2 w := by
  have step : ∀ k, k ≤ ops.size → ∃ L E2 a2, L.size = ops.size ∧ (∀ j, j < k → iq j = true → L.getD j false = true) ∧ (∀ j, listed.getD j false = true → L.getD j false = true) ∧ MixQ ops iq L s.E F E2 ∧ Ag (MissQ ops iq listed) a a2 ∧ RelE β ⟨s.N, E2, s.σ⟩ a2 w := by
    intro k
    induction k with
    | zero => intro _; exact ⟨listed, E', a, hsz, fun j hj => by omega, fun _ h => h, hmix, ⟨rfl, rfl, fun _ _ => rfl⟩, hr⟩
    | succ k ih =>
      intro hk
      obtain ⟨L, E2, a2, h1, h2, h3, h4, h5, h6⟩ := ih (by omega)
      have same : (iq k = true → L.getD k false = true) → ∃ L E2 a2, L.size = ops.size ∧ (∀ j, j < k + 1 → iq j = true → L.getD j false = true) ∧ (∀ j, listed.getD j false = true → L.getD j false = true) ∧ MixQ ops iq L s.E F E2 ∧ Ag (MissQ ops iq listed) a a2 ∧ RelE β ⟨s.N, E2, s.σ⟩ a2 w := fun hl =>
        ⟨L, E2, a2, h1, fun j hj hq => by
          rcases Nat.lt_or_ge j k with h | h
          · exact h2 j h hq
          · obtain rfl : j = k := by omega
            exact hl hq, h3, h4, h5, h6⟩
      cases hkq : iq k with
      | false => exact same fun h => by rw [hkq] at h; cases h
      | true =>
        cases hl : L.getD k false with
        | true => exact same fun _ => hl
        | false =>
          have hkl : k < ops.size := by omega
          have ho : ops[k]? = some ops[k] := by simp [hkl]
          generalize ops[k] = o at ho
          have hu : listed.getD k true = false := by
            cases h : listed.getD k false with
            | true => rw [h3 k h] at hl; cases hl
            | false =>
              have : k < listed.size := by omega
              simpa [this] using h
          obtain ⟨d, r, hd, hdN, hF, hsl⟩ := hsol k o hkq ho
          have hall : ∀ e ∈ o.after, Region.binds .any e = true → iq e.on = true → L.getD e.on false = true := fun e he hbd hq => h2 e.on ((waitB_spec hb.back ho).1 e he hbd) hq
          have hag := h4.looks hb hout ho hkq hall
          obtain ⟨ω, κ, hr'⟩ := id h6
          have key : ∀ u, RT w ω κ s.σ r u → ∃ L E2 a2, L.size = ops.size ∧ (∀ j, j < k + 1 → iq j = true → L.getD j false = true) ∧ (∀ j, listed.getD j false = true → L.getD j false = true) ∧ MixQ ops iq L s.E F E2 ∧ Ag (MissQ ops iq listed) a a2 ∧ RelE β ⟨s.N, E2, s.σ⟩ a2 w := fun u hu' => by
            refine ⟨L.setIfInBounds k true, (d, r) :: E2, a2.put (some d) u, by simp [h1], fun j hj hq => ?_, fun j hj => getD_set_true (h3 j hj), h4.set ho hkq h1 hd hF, h5.virt ⟨k, o, hkq, hu, ho, hd⟩ u, ⟨ω, κ, hr'.put hdN hu'⟩⟩
            rcases Nat.lt_or_ge j k with h | h
            · exact getD_set_true (h2 j h hq)
            · obtain rfl : j = k := by omega
              simp [h1, hkl]
          rcases hsl with ⟨hg, hq⟩ | ⟨hg, rfl⟩
          · obtain ⟨u, g1, g2⟩ := ev1_ok (P := P) (o := o) hr'.rs hr'.env (plain_ev (hpl k o hkq hu ho) (qvX_congr (looks_opnd hag) hq))
            exact key u g2
          · exact key undef ⟨[], rfl, rfl, by simp⟩
  obtain ⟨L, E2, a2, h1, h2, h3, h4, h5, h6⟩ := step ops.size (Nat.le_refl _)
  exact ⟨a2, h5, h6.weak ⟨rfl, fun t x hx => by rw [h4.full hout h2]; exact hx, fun _ _ h => h⟩⟩

theorem head_anyQ {ops : Array Oper} {iq : Nat → Bool} {f : Nat} {LL : List (List Nat)} {Q : Exit → Act → World → Prop} {K : St → Prop} {F : Env} (hb : LQ ops iq f LL)
    (hout : ∀ t, (∀ o ∈ quO ops iq, o.dst ≠ some t) → get F t = get s.E t) (hsol : ∀ i o, iq i = true → ops[i]? = some o → SolX P ops s.σ s.N F o)
    (hop : opsM P ops LL (chO ops iq) ⟨s.N, F, s.σ⟩ K) (hn : ∀ s' a' w', K s' → RelE β s' a' w' → Q .normal a' w') :
    ∀ (fuel : Nat) (listed : Array Bool) (E' : Env) (a : Act) (w : World), listed.size = ops.size → ClosedL ops listed → (∀ (m i : Nat), (chI ops iq)[m]? = some i → listed.getD i true = false) → (((List.range ops.size).filter fun j => !listed.getD j true).length ≤ fuel) →
      MixQ ops iq listed s.E F E' → RelE β ⟨s.N, E', s.σ⟩ a w → wpAny P .any ops Q fuel listed a w := by
  have plainly : ∀ (fuel : Nat) (listed : Array Bool) (E' : Env) (a : Act) (w : World), listed.size = ops.size → ClosedL ops listed → (∀ (m i : Nat), (chI ops iq)[m]? = some i → listed.getD i true = false) → (((List.range ops.size).filter fun j => !listed.getD j true).length ≤ fuel) →
      MixQ ops iq listed s.E F E' → RelE β ⟨s.N, E', s.σ⟩ a w → (∀ j o, iq j = true → listed.getD j true = false → ops[j]? = some o → plainB o.op = true) → wpAny P .any ops Q fuel listed a w := fun fuel listed E' a w hsz hcl ht hf hmix hr hp => by
    obtain ⟨a2, hag, hr2⟩ := virtQ hb hsz hout hsol (fun i o h1 h2 h3 => hp i o h1 h2 h3) hmix hr
    exact tail_anyQ hb hn fuel 0 listed ⟨s.N, F, s.σ⟩ a a2 w (Nat.zero_le _) hsz hcl (fun m i hm => by rw [ht m i hm]; simp) hf hag hr2 (fun j o hj hu ho => ⟨hp j o hj hu ho, hsol j o hj ho⟩) hop
  intro fuel
  induction fuel with
  | zero =>
    intro listed E' a w hsz hcl ht hf hmix hr
    refine plainly 0 listed E' a w hsz hcl ht hf hmix hr fun j o hj hu ho => ?_
    have : j ∈ (List.range ops.size).filter fun j => !listed.getD j true := List.mem_filter.2 ⟨List.mem_range.2 (Array.getElem?_eq_some_iff.1 ho).1, by simp [hu]⟩
    have := List.length_pos_of_mem this
    omega
  | succ fuel ih =>
    intro listed E' a w hsz hcl ht hf hmix hr
    by_cases hp : ∀ j o, iq j = true → listed.getD j true = false → ops[j]? = some o → plainB o.op = true
    · exact plainly (fuel + 1) listed E' a w hsz hcl ht hf hmix hr hp
    · obtain ⟨j0, q0, hj0, hun0, hq0, hnp⟩ : ∃ j o, iq j = true ∧ listed.getD j true = false ∧ ops[j]? = some o ∧ ¬ plainB o.op = true := by
        apply Classical.byContradiction
        intro hno
        exact hp fun j o h1 h2 h3 => Classical.byContradiction fun h4 => hno ⟨j, o, h1, h2, h3, h4⟩
      have hnone : ∀ {j : Nat}, j < ops.size → listed.getD j true = false → listed.getD j false = true → False := fun {j} hj h1 h2 => by
        have : j < listed.size := by omega
        simp [this] at h1 h2
        rw [h1] at h2; cases h2
      have hj0l := (Array.getElem?_eq_some_iff.1 hq0).1
      obtain ⟨j1, hj1, _⟩ := ready_least hb.back hsz j0 hj0l hun0
      refine ⟨fun h => (by rw [h] at hj1; cases hj1), fun i hi => ?_⟩
      obtain ⟨hui, o, ho, hall⟩ := mem_ready.1 hi
      have hil : i < ops.size := (Array.getElem?_eq_some_iff.1 ho).1
      have hin : iq i = true := by
        cases hiq : iq i with
        | true => rfl
        | false =>
          obtain ⟨m, hm⟩ := chI_mem hil hiq
          rcases (hb.chain m i o hm ho).2.2.2 j0 q0 hj0 hq0 with h1 | h1
          · exact (hnone hj0l hun0 (bef_ok hcl f i j0 o ho hall h1)).elim
          · exact absurd h1.1 hnp
      obtain ⟨d, r, hd, hdN, hF, hsl⟩ := hsol i o hin ho
      have hag := hmix.looks hb hout ho hin fun e he hbd _ => hall e he hbd
      have hnext : ∀ a' w', RelE β ((⟨s.N, E', s.σ⟩ : St).put d r) a' w' → wpAny P .any ops Q fuel (listed.setIfInBounds i true) a' w' := fun a' w' hr' =>
        ih _ ((d, r) :: E') a' w' (by simp [hsz]) (hcl.set ho hall) (fun m c hc => by rw [getD_set_ne true fun e => by have := (chI_at hc).2; rw [← e, hin] at this; cases this]; exact ht m c hc) (count_set hil hsz hui hf) (hmix.set ho hin hsz hd hF) hr'
      unfold wpOp
      simp only [ho]
      obtain ⟨ω, κ, hr'⟩ := id hr
      rcases hsl with ⟨hg, hq⟩ | ⟨hg, rfl⟩
      · rw [gdOf_congr hag] at hg
        rw [if_pos (gdOf_ok hr'.env hg)]
        exact .inl (qvX_ok (s := ⟨s.N, E', s.σ⟩) (qvX_congr (looks_opnd hag) hq) hd hdN hr hnext)
      · rw [gdOf_congr hag] at hg
        have hf' := gdOf_ok hr'.env hg
        rw [if_neg (by rw [hf']; simp), hd]
        exact hnext _ _ ⟨ω, κ, hr'.put hdN ⟨[], rfl, rfl, by simp⟩⟩
/-- **A region whose order is open**: 'qs': the places of what turns nothing; the others stand in a chain. -/
theorem Sm.drawQ {id : Nat} {ops : Array Oper} {K : Exit → St → Prop} {l1 l2 : List Oper} (qs : List Nat) (f : Nat) (LL : List (List Nat)) (hm : P.follows .mixedOrders = true) (hb : lateQB ops (fun i => qs.contains i) f LL = true)
    (e1 : quO ops (fun i => qs.contains i) = l1) (e2 : chO ops (fun i => qs.contains i) = l2) (h : qX P ops l1 s fun s' => opsM P ops LL l2 s' (K .normal)) : Sm P (.region id ops true) s K := fun β a w hr => by
  subst e1; subst e2
  have hl : lateB ops (quO ops fun i => qs.contains i) = true := by
    simp only [lateQB, Bool.and_eq_true] at hb
    exact hb.1.1.2
  obtain ⟨F, h1, h2, h4, h3⟩ := qX_sol h hl
  refine wp_region_any hm ?_
  have hr' : RelE β s a { w with drawn := w.drawn + 1 } := by
    obtain ⟨ω, κ, hr⟩ := hr
    exact ⟨ω, κ, hr.grown ⟨rfl, rfl, rfl, Nat.le_refl _, fun _ _ _ => rfl⟩⟩
  have hg : ∀ j, (Array.replicate ops.size false).getD j false = false := fun j => getD_replicate_false _ _
  refine head_anyQ (s := s) (F := F) (LQ.of hb) h2 (fun i o hi ho => h3 o (mem_quO.2 ⟨i, hi, ho⟩)) h1 (fun s' a' w' hk hr => ⟨s', hk, hr⟩) ops.size _ s.E a _ (by simp)
    (fun j oj hj hl => (by rw [hg] at hl; cases hl)) (fun m i hm => (by simp [(chI_at hm).1])) (Nat.le_trans (List.length_filter_le _ _) (by simp)) (fun t => ⟨fun ⟨j, o, _, hj, _⟩ => (by rw [hg] at hj; cases hj), fun _ => rfl⟩) hr'
end
end Go.VC
/- Runs through drawn regions with copies: no statement of a program. -/
set_option linter.unusedVariables false
namespace Go.VC
open Go
section
variable {P : Program}
theorem qX_nil {ops : Array Oper} {s : St} {K : St → Prop} : qX P ops [] s K = K s := rfl
theorem qX_cons {ops : Array Oper} {o : Oper} {r : List Oper} {s : St} {K : St → Prop} : qX P ops (o :: r) s K = match o.dst with
    | some d => d < s.N ∧ gdP (gdOf ops s.E o) (match o.op with
        | .call c => match c.callee with
          | .value f => match (opd s.E f).bind calleeOf, opsT s.E c.args.toList with
            | some (g, caps), some xs => fnOk P g = true ∧ CallQ P s.σ g (xs ++ caps) (fun v => qX P ops r (s.put d v) K) .mk
            | _, _ => False
          | .builtin .append => apQ P s.E s.σ c (fun v => qX P ops r (s.put d v) K) .mk
          | _ => onS (ev1 P s.E s.σ o.op) (fun v => qX P ops r (s.put d v) K) .mk
        | .buildSlice t n ps => onS (bsV P s.E t n ps) (fun ys => qX P ops r (s.put d (.c (.ik n n ys))) K) .mk
        | op => onS (ev1 P s.E s.σ op) (fun v => qX P ops r (s.put d v) K) .mk)
      (qX P ops r (s.put d (.tp [])) K) .mk .mk
    | none => False := by
  rw [qX] <;> rfl
theorem qX_congr {ops : Array Oper} {l : List Oper} {K : St → Prop} {s s' : St} (h : s = s') : qX P ops l s K = qX P ops l s' K := by rw [h]
theorem apQ_cgr {E E' : Env} {σ σ' : Sto} {c : Call} {K : TV → Prop} {t : Tg K} (h : E = E') (h' : σ = σ') : apQ P E σ c K t = apQ P E' σ' c K t := by rw [h, h']
attribute [congr] qX_congr apQ_cgr
/-- How many operations of a drawn region may stand in any order; which of them allocates, and into what. -/
structure Dx (n m d : Nat) : Prop where
theorem Sm.drawXK {s : St} {id n m d : Nat} (_ : Dx n m d) {ops : Array Oper} {K : Exit → St → Prop} {l1 l2 : List Oper} (hm : P.follows .mixedOrders = true) (hb : drawXB ops n m d = true) (hk : (get s.σ (2 * d)).isSome = false)
    (e1 : quietL ops n m = l1) (e2 : restL ops n m = l2) (h : qX P ops l1 s fun s' => opsW P ops l2 s' (K .normal)) : Sm P (.region id ops true) s K := Sm.drawX n m d hm hb hk e1 e2 h
theorem opsM_nil {ops : Array Oper} {LL : List (List Nat)} {s : St} {K : St → Prop} : opsM P ops LL [] s K = K s := by cases LL <;> rfl
theorem opsM_cons {ops : Array Oper} {L : List Nat} {LL : List (List Nat)} {o : Oper} {r : List Oper} {s : St} {K : St → Prop} : opsM P ops (L :: LL) (o :: r) s K = wpO P o s fun s' => solI P ops s' L ∧ opsM P ops LL r s' K := rfl
theorem opsM_congr {ops : Array Oper} {LL : List (List Nat)} {l : List Oper} {K : St → Prop} {s s' : St} (h : s = s') : opsM P ops LL l s K = opsM P ops LL l s' K := by rw [h]
theorem solI_nil {ops : Array Oper} {s : St} : solI P ops s [] = True := rfl
theorem solI_cons {ops : Array Oper} {s : St} {j : Nat} {r : List Nat} : solI P ops s (j :: r) = ((match ops[j]? with | some o => solE P ops s o | none => True) ∧ solI P ops s r) := rfl
attribute [congr] opsM_congr
theorem goMX {ops : Array Oper} {LL : List (List Nat)} {l : List Oper} {s : St} {K : St → Prop} (h : opsM P ops LL l s K) : opsM P ops LL l s K := h
theorem goSI {ops : Array Oper} {s : St} {L : List Nat} {A : Prop} (h : solI P ops s L ∧ A) : solI P ops s L ∧ A := h
/-- How many operations of a drawn region turn nothing; over how many edges it is asked which of them are waited for; which may come late. -/
structure Dm (n f : Nat) (LL : List (List Nat)) : Prop where
theorem Sm.drawMK {s : St} {id n f : Nat} {LL : List (List Nat)} (_ : Dm n f LL) {ops : Array Oper} {K : Exit → St → Prop} {l1 l2 : List Oper} (hm : P.follows .mixedOrders = true) (hb : lateMB ops n f LL = true) (e1 : ops.toList.take n = l1) (e2 : ops.toList.drop n = l2)
    (h : qX P ops l1 s fun s' => opsM P ops LL l2 s' (K .normal)) : Sm P (.region id ops true) s K := Sm.drawM n f LL hm hb e1 e2 h
/-- The places of what turns nothing; those of the chain; over how many edges it is asked; which may come late. -/
structure Dq (qs cs : List Nat) (f : Nat) (LL : List (List Nat)) : Prop where
theorem Sm.drawQK {s : St} {id f : Nat} {qs cs : List Nat} {LL : List (List Nat)} (_ : Dq qs cs f LL) {ops : Array Oper} {K : Exit → St → Prop} {l1 l2 : List Oper} (hm : P.follows .mixedOrders = true)
    (hb : (lateQB ops (fun i => qs.contains i) f LL && decide (chI ops (fun i => qs.contains i) = cs) && decide (((List.range ops.size).filter fun i => qs.contains i) = qs)) = true) (e1 : qs.filterMap (fun i => ops[i]?) = l1) (e2 : cs.filterMap (fun i => ops[i]?) = l2)
    (h : qX P ops l1 s fun s' => opsM P ops LL l2 s' (K .normal)) : Sm P (.region id ops true) s K := by
  simp only [Bool.and_eq_true, decide_eq_true_eq] at hb
  obtain ⟨⟨h1, h2⟩, h3⟩ := hb
  exact Sm.drawQ qs f LL hm h1 (by rw [quO, h3, e1]) (by rw [chO, h2, e2]) h
theorem goQX {ops : Array Oper} {l : List Oper} {s : St} {K : St → Prop} (h : qX P ops l s K) : qX P ops l s K := h
end
/-- Run on, through drawn regions with copies and one allocation. -/
theorem RunX {F G R1 R2 R3 R4 R5 R6 R7 R8 R9 : Prop} (f : F) (r : Lf R1 (Lf R2 (Lf R3 (Lf R4 (Lf R5 (Lf R6 (Lf R7 (Lf R8 R9))))))))
    (d : F → Bx R1 → Bx R2 → Bx R3 → Bx R4 → Bx R5 → Bx R6 → Bx R7 → Bx R8 → Bx R9 → Lf G (Lf (Dd R1) (Lf (Dd R2) (Lf (Dd R3) (Lf (Dd R4) (Lf (Dd R5) (Lf (Dd R6) (Lf (Dd R7) (Lf (Dd R8) (Dd R9))))))))) := by
      intro fx r1 r2 r3 r4 r5 r6 r7 r8 r9
      refine Lf.mk ?_ ?_
      · repeat' (first
          | ((with_reducible refine Cont.keepK kt ?_); try simp only [keepE, memN, delN, ↓reduceIte, Nat.reduceEqDiff, Bool.false_eq_true])
          | (with_reducible refine Sm.seq ?_)
          | (with_reducible refine Sm.block ?_)
          | ((first | (with_reducible refine Sm.skip ?_) | (with_reducible refine Sm.exit ?_) | (with_reducible refine Sm.ret ?_)); try simp only [Kn, Kb, ↓reduceIte, Nat.reduceEqDiff])
          | (((first | (with_reducible refine Sm.region ?_) | (with_reducible refine Sm.drawXK dx mixed (by decide +kernel) (by simp only [get_cons, get_nil, ↓reduceIte, Nat.reduceMul, Nat.reduceEqDiff, Option.isSome_none, Option.isSome_some]) (by (simp only [quietL, List.take_succ_cons, List.take_zero, List.eraseIdx_cons_succ, List.eraseIdx_cons_zero, List.eraseIdx_nil]); exact rfl) (by (simp only [restL, Nat.reduceLT, ↓reduceIte, List.take_succ_cons, List.take_zero, List.drop_succ_cons, List.drop_zero, List.nil_append, List.cons_append]); exact rfl) ?_) | (with_reducible refine Sm.drawQK dq mixed (by decide +kernel) (by (simp only [List.filterMap_cons, List.filterMap_nil, List.getElem?_toArray, List.getElem?_cons_succ, List.getElem?_cons_zero]); exact rfl) (by (simp only [List.filterMap_cons, List.filterMap_nil, List.getElem?_toArray, List.getElem?_cons_succ, List.getElem?_cons_zero]); exact rfl) ?_) | (with_reducible refine Sm.drawMK dm mixed (by decide +kernel) (by (simp only [List.take_succ_cons, List.take_zero, List.drop_succ_cons, List.drop_zero]); exact rfl) (by (simp only [List.take_succ_cons, List.take_zero, List.drop_succ_cons, List.drop_zero]); exact rfl) ?_) | (with_reducible refine Sm.drawK dn mixed (by decide +kernel) (by (simp only [List.take_succ_cons, List.take_zero, List.drop_succ_cons, List.drop_zero]); exact rfl) (by (simp only [List.take_succ_cons, List.take_zero, List.drop_succ_cons, List.drop_zero]); exact rfl) ?_) | (with_reducible refine Sm.drawT mixed (by decide +kernel) ?_) | (with_reducible refine RetK.any kz (by simp) ?_ ?_) | (with_reducible refine Sm.test ?_) | (with_reducible refine goOps ?_) | (with_reducible refine goDW ?_) | (with_reducible refine goQW ?_) | (with_reducible refine goQX ?_) | (with_reducible refine goMX ?_) | (with_reducible refine goSI ?_) | (with_reducible refine goOn ?_) | (with_reducible refine goGd ?_)) <;> simp -dsimp (maxSteps := 2000000) (disch := omega) only [vs, ↓Option.bind_some, ev1, ofV, scalarB, Kn, Kb, calleeOf, evLoad, ptr, evField, evFieldAddr, shift, ↓pt_at, ↓pt_at1, evExtract, evBin, evLen, evConv, cellsT, noS, Cell.has, Cell.hasN, Cell.anyN, toIV, toIV0, toIVs, ownC, srcM, Ob.own, Ob.esz, allSc, nilK, lenC, ownCell, isPtr, ptrNil, frzO, Cell.frz, Cell.keys, ↓reduceIte, reduceCtorEq, Nat.reduceEqDiff, Nat.reduceBEq, Nat.reduceBNe, Nat.reduceAdd, Nat.reduceMul, Nat.reduceSub, Nat.reduceLT, Nat.reduceLeDiff, Nat.reducePow, Int.reduceLT, Int.reduceLE, Int.reduceEq, Int.reduceNe, quietB, Nat.reduceMod, Int.reduceToNat, ne_eq, eq_self, exists_const, evBytes, byRow, byL, byStr_size, ifsz, ByteArray.size_append, Option.none_or, Option.some_or, evLook, keyD, qX_nil, qX_cons, apQ, opsM_nil, opsM_cons, solI_nil, solI_cons, solE, Option.isSome_some, true_or, or_true, true_and, allSc_eS, allSc_eI, flat_len', Nat.mul_one, Nat.zero_add, List.nil_append, List.append_nil, fcx, fx]); try (with_reducible refine ⟨fun hq => ?_, fun hq => ?_⟩ <;> (try simp only [vh, ne_eq] at hq)))
          | ((with_reducible refine gdP_split (fun hq => ?_) (fun hq => ?_)) <;> ((try simp only [vh, ne_eq] at hq); simp -dsimp (maxSteps := 2000000) (disch := omega) only [vs, ↓Option.bind_some, ev1, ofV, scalarB, Kn, Kb, calleeOf, evLoad, ptr, evField, evFieldAddr, shift, ↓pt_at, ↓pt_at1, evExtract, evBin, evLen, evConv, cellsT, noS, Cell.has, Cell.hasN, Cell.anyN, toIV, toIV0, toIVs, ownC, srcM, Ob.own, Ob.esz, allSc, nilK, lenC, ownCell, isPtr, ptrNil, frzO, Cell.frz, Cell.keys, ↓reduceIte, reduceCtorEq, Nat.reduceEqDiff, Nat.reduceBEq, Nat.reduceBNe, Nat.reduceAdd, Nat.reduceMul, Nat.reduceSub, Nat.reduceLT, Nat.reduceLeDiff, Nat.reducePow, Int.reduceLT, Int.reduceLE, Int.reduceEq, Int.reduceNe, quietB, Nat.reduceMod, Int.reduceToNat, ne_eq, eq_self, exists_const, evBytes, byRow, byL, byStr_size, ifsz, ByteArray.size_append, Option.none_or, Option.some_or, evLook, keyD, qX_nil, qX_cons, apQ, opsM_nil, opsM_cons, solI_nil, solI_cons, solE, Option.isSome_some, true_or, or_true, true_and, allSc_eS, allSc_eI, flat_len', Nat.mul_one, Nat.zero_add, List.nil_append, List.append_nil, fcx, hq, fx]))
          | (with_reducible refine ⟨(by first | omega | (simp only [maxLen]; omega)), ?_⟩)
          | fail)
        all_goals ((repeat revert hq); first | (with_reducible exact r1.h) | (with_reducible exact r2.h) | (with_reducible exact r3.h) | (with_reducible exact r4.h) | (with_reducible exact r5.h) | (with_reducible exact r6.h) | (with_reducible exact r7.h) | (with_reducible exact r8.h) | (with_reducible exact r9.h))
      · (refine ⟨?_, ?_, ?_, ?_, ?_, ?_, ?_, ?_, ?_⟩) <;> first | (with_reducible exact Dd.t) | (with_reducible exact Dd.mk)) : G :=
  (d f ⟨r.l⟩ ⟨r.r.l⟩ ⟨r.r.r.l⟩ ⟨r.r.r.r.l⟩ ⟨r.r.r.r.r.l⟩ ⟨r.r.r.r.r.r.l⟩ ⟨r.r.r.r.r.r.r.l⟩ ⟨r.r.r.r.r.r.r.r.l⟩ ⟨r.r.r.r.r.r.r.r.r⟩).l
end Go.VC
/- A nil slice is handed over as an own row without elements: no statement of a program. -/
set_option linter.unusedSimpArgs false
set_option linter.unusedVariables false
namespace Go.VC
open Go Go.RowKit
section
variable {β : Base} {w w' : World} {ω ω' : Lab} {κ κ' : Nat → Value} {σ σ' : Sto} {E : Env} {a : Act} {s : St} {P : Program}
theorem CallG.nlA {g d : Nat} {xs : List TV} {K : St → Prop} {t : Tg K} (i q : Nat) (ty : TypeId) (e : Nat) (own : Bool) (hi : xs[i]? = some (.c .nl)) (hq : q % 2 = 0) (he : 0 < e) (hE : noE q s.E = true) (hS : noS q s.σ = true) (hx : xs.all (fun x => !x.has q) = true)
    (h : CallG P ⟨s.N, s.E, (q, .vec ty e 0 [] own) :: s.σ⟩ g (xs.set i (.c (.os q 0))) d K t) : CallG P s g xs d K t := by
  intro β ω κ a w vs hr hv
  have h' := hr.nlRow ty own he (odd_no hr hq) hE hS
  have hkey : ∀ k, k ≠ q → KeyOk κ s.σ (setK κ q (.slice none 0 0)) ((q, .vec ty e 0 [] own) :: s.σ) k := fun k hkq => ⟨fun _ => setK_ne κ _ hkq, fun o' m' ho hm => by
    rw [get_cons, if_neg hkq] at ho
    exact ⟨o', m', ho, hm, Nat.le_refl _, fun _ => setK_ne κ _ hkq⟩⟩
  refine h β ω _ a w vs h' ⟨by simpa using hv.1, fun j x v hxj hvj => ?_⟩
  rw [List.getElem?_set] at hxj
  split at hxj
  · rename_i e'
    subst e'
    split at hxj
    · obtain rfl := Option.some.inj hxj
      have h1 := hv.2 _ _ v hi hvj
      generalize v = v at h1
      cases h1
      exact .os q 0 none 0 (Nat.le_refl _) (fun _ => rfl) fun o m ho hm => by
        rw [get_cons, if_pos rfl] at ho
        obtain rfl := Option.some.inj ho
        obtain rfl := Option.some.inj hm
        exact ⟨Nat.le_refl _, fun _ => setK_eq κ q _⟩
    · cases hxj
  · have hxq : x.has q = false := by
      have := List.all_eq_true.1 hx x (List.mem_of_getElem? hxj)
      simpa using this
    exact (hv.2 j x v hxj hvj).step ⟨fun b hb => ⟨hb, rfl⟩, fun k hk' => hkey k (fun e => by rw [e, hxq] at hk'; cases hk'), fun k hk' o' m' ho hm => by
      have hkq : k ≠ q := fun e => by have := hasNT_has k x hk'; rw [e, hxq] at this; cases this
      rw [get_cons, if_neg hkq] at ho
      exact ⟨⟨o', m', ho, hm⟩, setK_ne κ _ hkq, fun _ _ _ _ _ => rfl⟩⟩
end
end Go.VC
