/- A region whose order Go leaves open: its first operations, which turn nothing, may stand in any order. -/
import Derived.Test.YteinefllijajdaaGW2
import Derived.StillTail
import Derived.ChangeArms
import Derived.Carry
import Derived.OpenShut
import Derived.SizedLaws
import Derived.ChangeOld
import Derived.WideShapes
set_option linter.unusedSimpArgs false
set_option linter.unusedVariables false
namespace Go.VC
open Go Go.RowKit
section
variable {β : Base} {w w' : World} {ω ω' : Lab} {κ κ' : Nat → Value} {σ : Sto} {E E' : Env} {a : Act} {s : St} {P : Program}

/-- A slice that is made: its cells. -/
def bsV (P : Program) (E : Env) (t : TypeId) (n : Nat) (ps : Array (Nat × Operand)) : Option (List IV) :=
  match apOf P t, opds E ps.toList with
  | some (_, sz, _, zs), some qs => if n * sz ≤ 2 ^ 24 then (fillC ((List.range n).map fun i => (i * sz, sz)) (bsCells n sz zs) qs).bind toIVs else none
  | _, _ => none
/-- A call that turns nothing: by a contract without objects, or with a block that is never written. -/
def FnQ (P : Program) (σ : Sto) (g : FuncId) (ys : List TV) (r : TV) : Prop :=
  FnS P g [] ys [] r ∨ ∃ k b x u, get σ k = some (.gl b x) ∧ r = .c (.im (.sc u)) ∧ FnS P g [(1, .gl b x)] ys [(1, .gl b x)] r
theorem CallG.glQ {g d k b : Nat} {x : Obj} {u : Value} {xs ys : List TV} {σa : Sto} {K : St → Prop} {t : Tg K} {l : Lb} (hk : get s.σ k = some (.gl b x)) (hf : FnS P g [(1, .gl b x)] ys [(1, .gl b x)] (.c (.im (.sc u)))) (hl : l = .im ∨ l = .no)
    (hσa : ∀ k o, get σa k = some o → get s.σ k = some o ∧ l = .im) (ha : ArgsOk σa xs ys) (hd : d < s.N) (hK : K ⟨s.N, (d, .c (.im (.sc u))) :: s.E, s.σ⟩) : CallG P s g xs d K t := by
  intro β ω κ a w vs hr hv
  have hnil : ∀ (k : Nat) (o : Ob), get ([] : Sto) k = some o → get s.σ k = some o := fun k o h => by rw [get_nil] at h; cases h
  obtain ⟨h1, h2, _⟩ := seen_ok hr.rs hl hnil
  have hob : ω b = .im ∧ w.heap[b]? = some x := hr.rs.ob k _ hk
  have hargs := ArgsOk.val hr.rs hnil hl (fun k o h => ⟨(hσa k o h).1, by rw [get_nil]; rfl, (hσa k o h).2⟩) ha hv
  refine (hf w (seenL ω [] l) κ vs ⟨fun j o hj => ?_, h1.dom⟩ (fun b k hb => ?_) ?_).mono fun e w' ⟨v, ωc, κc, he, ht, hS, hrv, _⟩ => ?_
  · rw [get_cons] at hj
    split at hj
    · obtain rfl := Option.some.inj hj
      exact ⟨seen_im hob.1, hob.2⟩
    · rw [get_nil] at hj; cases hj
  · have := h2 b k hb; rw [get_nil] at this; cases this
  · exact hargs.imp fun x y _ hxy => hxy.step ⟨fun b hb => ⟨hb, rfl⟩, fun k _ => ⟨fun _ => rfl, fun o' m' ho hm => by
      rw [get_cons] at ho
      split at ho
      · obtain rfl := Option.some.inj ho; cases hm
      · rw [get_nil] at ho; cases ho⟩, fun k _ o' m' ho hm => by
      rw [get_cons] at ho
      split at ho
      · obtain rfl := Option.some.inj ho; cases hm
      · rw [get_nil] at ho; cases ho⟩
  · have hrv' : RT w' ωc κc [] (.c (.im (.sc u))) v := by
      cases hrv with
      | im _ _ h => exact .im _ _ h
    exact ⟨v, he, _, hK, hr.back (σ0 := []) (σ1 := []) hnil (hl.imp (fun h => ⟨h, rfl, rfl⟩) id) ht ⟨fun k o h => (by rw [get_nil] at h; cases h), hS.dom⟩ hrv' (fun k h => by rw [get_nil] at h; cases h) rfl rfl rfl rfl hd⟩
/-- An operation that turns nothing comes to r. -/
def qv (P : Program) (E : Env) (σ : Sto) (o : Oper) (r : TV) : Prop :=
  match o.op with
  | .call c => match c.callee with
    | .value f => ∃ x g caps xs ys, opd E f = some x ∧ calleeOf x = some (g, caps) ∧ fnOk P g = true ∧ opsT E c.args.toList = some xs ∧ FnQ P σ g ys r ∧ r.keys = [] ∧ ((argTs σ (xs ++ caps) = some ys ∧ pureT r = true) ∨ argTs [] (xs ++ caps) = some ys)
    | _ => ev1 P E σ o.op = some r
  | .buildSlice t n ps => ∃ ys, bsV P E t n ps = some ys ∧ r = .c (.ik n n ys)
  | op => ev1 P E σ op = some r

theorem qv_ok {o : Oper} {r : TV} {d : Nat} {next : Act → World → Prop} {Q : Exit → Act → World → Prop} (h : qv P s.E s.σ o r) (hd : o.dst = some d) (hdN : d < s.N) (hr : RelE β s a w)
    (hn : ∀ a' w', RelE β (s.put d r) a' w' → next a' w') : o.wp P a w next Q := by
  obtain ⟨ω, κ, hr⟩ := hr
  have hev : ev1 P s.E s.σ o.op = some r → o.wp P a w next Q := fun h => by
    obtain ⟨u, g1, g2⟩ := ev1_ok (P := P) (o := o) hr.rs hr.env h
    exact wp_value g1 (by rw [hd]; exact hn _ _ ⟨ω, κ, hr.put hdN g2⟩)
  unfold qv at h
  split at h
  · rename_i c hop
    split at h
    · rename_i f hcal
      obtain ⟨x, g, caps, xs, ys, h1, h2, h3, h4, h5, h6, h7⟩ := h
      have hcg : CallG P s g (xs ++ caps) d (fun s' => s' = s.put d r) .mk := by
        have hki : keysIn [] [] r.keys = true ∧ keysInS [] [] [] = true := by rw [h6]; exact ⟨rfl, rfl⟩
        rcases h5 with h5 | ⟨k, b, x', u, hgk, rfl, h5⟩
        · rcases h7 with ⟨h7, h8⟩ | h7
          · exact CallG.pure h5 h7 ⟨h8, rfl⟩ hki rfl hdN rfl
          · exact CallG.val h5 h7 hki rfl hdN rfl
        · rcases h7 with ⟨h7, h8⟩ | h7
          · exact CallG.glQ (l := .im) hgk h5 (.inl rfl) (fun k o h => ⟨h, rfl⟩) (argTs_ok h7) hdN rfl
          · exact CallG.glQ (l := .no) (σa := []) hgk h5 (.inr rfl) (fun k o h => by rw [get_nil] at h; cases h) (argTs_ok h7) hdN rfl
      obtain ⟨cs, hv, hc⟩ := calleeOf_ok h2 (opd_ok hr.env h1)
      have hav := opsT_ok hr.env h4
      have hall : All2 (RT w ω κ s.σ) (xs ++ caps) ((c.args.toList.map a.eval) ++ cs) := hav.append hc
      have hargs' : c.args.map a.eval ++ cs.toArray = ((c.args.toList.map a.eval) ++ cs).toArray := by apply Array.ext'; simp
      refine wp_enter (g := g) (args := ((c.args.toList.map a.eval) ++ cs).toArray) ?_ ((hcg β ω κ a w _ hr hall).mono fun e w' ⟨v, he, s', hK', hr'⟩ => ⟨v, he, by rw [hd]; subst hK'; exact hn _ _ hr'⟩)
      rw [← hargs']
      simp [execOp, hop, resolve, hcal, hv, Deferred.ofValue, invoke, run_callFunc h3]
    · exact hev h
  · rename_i t n ps hop
    obtain ⟨ys, hys, rfl⟩ := h
    unfold bsV at hys
    split at hys
    · rename_i e sz by_ zs qs hap hqs
      split at hys
      · rename_i hc
        have hc24 := hc
        obtain ⟨i, z, hu, hi, hz, hzs, hpos, rfl, rfl, rfl, hone⟩ := apOf_some hap
        obtain ⟨cs, hcs, hys2⟩ := Option.bind_eq_some_iff.1 hys
        have hz0 : All2 (RC w ω κ s.σ) (bsCells n i.size z.cells.toList) ((Array.range (n * i.size)).map fun j => z.cells[j % z.cells.size]!).toList := by
          refine ⟨by simp [bsCells], fun j x y hx hy => ?_⟩
          simp only [bsCells, List.getElem?_map] at hx
          obtain ⟨q, hq, rfl⟩ := Option.map_eq_some_iff.1 hx
          obtain ⟨hj, hq'⟩ := List.getElem?_eq_some_iff.1 hq
          simp at hj hq'
          subst hq'
          have hm : j % i.size < z.cells.size := by rw [hzs]; exact Nat.mod_lt _ hpos
          have : y = z.cells[j % i.size] := by
            simp [hj] at hy
            rw [← hy, hzs]; exact getElem!_pos z.cells _ hm
          rw [this]
          have e : z.cells.toList.getD (j % i.size) undef = z.cells[j % i.size] := by simp [List.getD, hm]
          rw [e]
          exact ofC_ok _
        have hz1 : ∀ u ∈ ((Array.range (n * i.size)).map fun j => z.cells[j % z.cells.size]!).toList, u.oneCell' = true := fun u hu => by
          simp only [Array.toList_map, List.mem_map] at hu
          obtain ⟨j, _, rfl⟩ := hu
          have hm : j % i.size < z.cells.size := by rw [hzs]; exact Nat.mod_lt _ hpos
          exact hone _ (by rw [hzs, getElem!_pos z.cells _ hm]; simp)
        obtain ⟨vs, g1, g2, g3⟩ := fillC_ok (place := fun j => some (j * i.size, i.size)) (fun j q hq => by
          rw [List.getElem?_map] at hq
          obtain ⟨j', hj', rfl⟩ := Option.map_eq_some_iff.1 hq
          obtain ⟨_, hq'⟩ := List.getElem?_eq_some_iff.1 hj'
          simp at hq'; subst hq'; rfl) (opds_ok hr.env hqs) hz0 hz1 hcs
        have hrun : (execOp a.eval o).run P w = .ok (.value (.slice (some ⟨w.heap.size, 0, none⟩) n n)) (w.alloc (.cells vs e)) := by
          have hfill : Instr.fill (fun j => some (j * i.size, i.size)) ((Array.range (n * i.size)).map fun j => z.cells[j % z.cells.size]!) (ps.toList.map fun p => (p.1, a.eval p.2)) = some vs := g1
          have hs24 : ¬ (16777216 < n * i.size) := by omega
          by_cases hn0 : n * i.size = 0
          · have hr0 : ∀ f : Nat → Value, (Array.range 0).map f = #[] := fun f => by apply Array.ext'; simp
            have hfill' : Instr.fill (fun j => some (j * i.size, i.size)) #[] (ps.toList.map fun p => (p.1, a.eval p.2)) = some vs := by rw [hn0, hr0] at hfill; exact hfill
            simp [execOp, hop, Instr.buildSlice, run_underlying hu, sizeOf, typeInfo, hi, hn0, hr0, hfill', newRow]
          · simp [execOp, hop, Instr.buildSlice, run_underlying hu, sizeOf, typeInfo, hi, hn0, zeroValue, hz, hs24, hfill, newRow]
        have hyv := toIVs_ok hys2 g2
        have hg := World.grownBy_alloc w (.cells vs e) none
        have hgr := hr.grown hg
        have hmo := hgr.more (lo := w.heap.size) (fun b hb1 hb2 => by
          cases hw : ω b with
          | no => rfl
          | _ => have := hr.rs.dom b (by rw [hw]; simp); omega) hr.turn.size
        refine wp_value hrun ?_
        rw [hd]
        refine hn _ _ ⟨_, κ, hmo.put hdN (.ik _ _ _ _ (.sl _ _ _ ⟨w.heap.size, 0, none⟩ (fun j => vs.toList.getD j undef) (fun _ => ?_) (Nat.le_refl _) ?_ (fun j hj => ?_) fun j x hx => ?_))⟩
        · unfold newL; rw [if_pos (by simp)]
        · have : n ≤ n * i.size := Nat.le_mul_of_pos_right _ hpos
          simp [maxLen]; omega
        · have hjl : j < vs.size := by have := hyv.1; simp at this; omega
          rw [Addr.add_lit, Nat.zero_add, cell_row (heap_alloc_new w _)]
          simp [List.getD, hjl]
        · obtain ⟨u, hu', hr'⟩ := hyv.get hx
          have : vs.toList.getD j undef = u := by rw [List.getD, hu']; rfl
          rw [this]
          refine hr'.kept fun b hb => ⟨?_, heap_alloc_old w _ (hr.rs.dom b (by rw [hb]; simp))⟩
          unfold newL
          rw [if_neg fun e => by have := hr.rs.dom b (by rw [hb]; simp); omega]
          exact hb
      · cases hys
    · cases hys
  · exact hev h

theorem opd_congr {x : Operand} (h : ∀ t, x = .tmp t → get E t = get E' t) : opd E x = opd E' x := by
  cases x with
  | tmp t => exact h t rfl
  | _ => rfl
theorem opds_congr : ∀ {l : List (Nat × Operand)}, (∀ p ∈ l, ∀ t, p.2 = .tmp t → get E t = get E' t) → opds E l = opds E' l
  | [], _ => rfl
  | (i, x) :: r, h => by
    simp only [opds]
    rw [opd_congr (h (i, x) (by simp)), opds_congr fun p hp => h p (by simp [hp])]
theorem opsT_congr : ∀ {l : List Operand}, (∀ x ∈ l, ∀ t, x = .tmp t → get E t = get E' t) → opsT E l = opsT E' l
  | [], _ => rfl
  | x :: r, h => by
    simp only [opsT]
    rw [opd_congr (h x (by simp)), opsT_congr fun p hp => h p (by simp [hp])]
theorem opcs_congr : ∀ {l : List Operand}, (∀ x ∈ l, ∀ t, x = .tmp t → get E t = get E' t) → opcs E l = opcs E' l
  | [], _ => rfl
  | x :: r, h => by
    simp only [opcs]
    rw [opd_congr (h x (by simp)), opcs_congr fun p hp => h p (by simp [hp])]
theorem bnd_congr {d : Int} {x : Option Operand} (h : ∀ y, x = some y → ∀ t, y = .tmp t → get E t = get E' t) : bnd E d x = bnd E' d x := by
  cases x with
  | none => rfl
  | some y => simp only [bnd]; rw [opd_congr (h y rfl)]

theorem ev1_congr {op : Op} (h : ∀ x ∈ op.operands.toList, ∀ t, x = .tmp t → get E t = get E' t) : ev1 P E σ op = ev1 P E' σ op := by
  cases op <;> simp only [ev1]
  case move x => exact opd_congr (h x (by simp [Op.operands]))
  case assign x => exact opd_congr (h x (by simp [Op.operands]))
  case pick c x y => rw [opd_congr (h c (by simp [Op.operands])), opd_congr (h x (by simp [Op.operands])), opd_congr (h y (by simp [Op.operands]))]
  case load t x => rw [opd_congr (h x (by simp [Op.operands]))]
  case field t x f => rw [opd_congr (h x (by simp [Op.operands]))]
  case fieldAddr t x f => rw [opd_congr (h x (by simp [Op.operands]))]
  case indexAddr t x i => rw [opd_congr (h x (by simp [Op.operands])), opd_congr (h i (by simp [Op.operands]))]
  case index t x i => rw [opd_congr (h x (by simp [Op.operands])), opd_congr (h i (by simp [Op.operands]))]
  case build t ps => unfold evBuild; rw [opds_congr fun p hp => h p.2 (by simp [Op.operands]; exact ⟨p.1, by simpa using hp⟩)]
  case extract x i => rw [opd_congr (h x (by simp [Op.operands]))]
  case nilCheck x => rw [opd_congr (h x (by simp [Op.operands]))]
  case unOp op t x => rw [opd_congr (h x (by simp [Op.operands]))]
  case binOp op t x y u => rw [opd_congr (h x (by simp [Op.operands])), opd_congr (h y (by simp [Op.operands]))]
  case convert s d x => rw [opd_congr (h x (by simp [Op.operands]))]
  case lookup t x i ok => rw [opd_congr (h x (by simp [Op.operands])), opd_congr (h i (by simp [Op.operands]))]
  case slice t x lo hi mx =>
    have h1 : opd E x = opd E' x := opd_congr (h x (by simp [Op.operands]))
    have h2 : ∀ d, bnd E d lo = bnd E' d lo := fun d => bnd_congr fun y hy => h y (by simp [Op.operands, hy])
    have h3 : ∀ d, bnd E d hi = bnd E' d hi := fun d => bnd_congr fun y hy => h y (by simp [Op.operands, hy])
    have h4 : ∀ d, bnd E d mx = bnd E' d mx := fun d => bnd_congr fun y hy => h y (by simp [Op.operands, hy])
    unfold evSlice partOf partOv
    simp only [h1, h2, h3, h4]
  case makeFunc fn first caps =>
    cases fn <;> simp only
    rw [opcs_congr fun x hx => h x (by simp [Op.operands] at hx ⊢; exact .inr hx)]
  case call c =>
    have : ∀ x, x ∈ c.args.toList → opd E x = opd E' x := fun x hx => opd_congr (h x (by simp [Op.operands, Call.operands]; exact .inr (by simpa using hx)))
    split
    · rename_i x t h1 h2 h3; rw [this x (by simp [h2])]
    · rename_i x y h1 h2; rw [this x (by simp [h2]), this y (by simp [h2])]
    · rename_i x y h1 h2; rw [this x (by simp [h2]), this y (by simp [h2])]
    · rfl

theorem qv_congr {o : Oper} {r : TV} (h : ∀ x ∈ o.op.operands.toList, ∀ t, x = .tmp t → get E t = get E' t) (hq : qv P E σ o r) : qv P E' σ o r := by
  unfold qv at *
  split at hq
  · rename_i c hop
    split at hq
    · rename_i f hcal
      obtain ⟨x, g, caps, xs, ys, h1, h2, h3, h4, h5⟩ := hq
      refine ⟨x, g, caps, xs, ys, ?_, h2, h3, ?_, h5⟩
      · rw [← h1]; exact (opd_congr (h f (by simp [hop, Op.operands, Call.operands, hcal]))).symm
      · rw [← h4]; exact (opsT_congr fun x hx => h x (by simp [hop, Op.operands, Call.operands]; exact .inr (by simpa using hx))).symm
    · rename_i hne
      rw [← ev1_congr h]; exact hq
  · rename_i t n ps hop
    obtain ⟨ys, h1, h2⟩ := hq
    refine ⟨ys, ?_, h2⟩
    unfold bsV at *
    rw [← opds_congr fun p hp => h p.2 (by simp [hop, Op.operands]; exact ⟨p.1, by simpa using hp⟩)]
    exact h1
  · rename_i h1 h2
    rw [← ev1_congr h]; exact hq
theorem gdOf_congr {ops : Array Oper} {o : Oper} (h : ∀ t ∈ o.looksAt ops, get E t = get E' t) : gdOf ops E o = gdOf ops E' o := by
  unfold gdOf
  split
  · rfl
  · rename_i j want hg
    split
    · rename_i d hd
      rw [h d (by simp [Oper.looksAt, hg, hd])]
    · rfl
theorem looks_opnd {ops : Array Oper} {o : Oper} (h : ∀ t ∈ o.looksAt ops, get E t = get E' t) : ∀ x ∈ o.op.operands.toList, ∀ t, x = .tmp t → get E t = get E' t := fun x hx t ht => by
  subst ht
  refine h t ?_
  simp only [Oper.looksAt, List.mem_append, List.mem_filterMap]
  exact .inl ⟨_, hx, rfl⟩

/-- A call among operations that turn nothing. -/
def CallQ (P : Program) (σ : Sto) (g : FuncId) (xs : List TV) (K : TV → Prop) (_ : Tg K) : Prop :=
  ∃ ys v, FnQ P σ g ys v ∧ v.keys = [] ∧ ((argTs σ xs = some ys ∧ pureT v = true) ∨ argTs [] xs = some ys) ∧ K v
theorem CallQ.pure {σ : Sto} {g : FuncId} {xs ys : List TV} {v : TV} {K : TV → Prop} {t : Tg K} (hf : FnS P g [] ys [] v) (ha : argTs σ xs = some ys) (hp : pureT v = true) (hk : v.keys = []) (hK : K v) : CallQ P σ g xs K t := ⟨ys, v, .inl hf, hk, .inl ⟨ha, hp⟩, hK⟩
theorem CallQ.val {σ : Sto} {g : FuncId} {xs ys : List TV} {v : TV} {K : TV → Prop} {t : Tg K} (hf : FnS P g [] ys [] v) (ha : argTs [] xs = some ys) (hk : v.keys = []) (hK : K v) : CallQ P σ g xs K t := ⟨ys, v, .inl hf, hk, .inr ha, hK⟩
theorem CallQ.gl {σ : Sto} {g : FuncId} {xs ys : List TV} {b : Nat} {x : Obj} {u : Value} {K : TV → Prop} {t : Tg K} (hf : FnS P g [(1, .gl b x)] ys [(1, .gl b x)] (.c (.im (.sc u)))) (hg : get σ 1 = some (.gl b x)) (ha : argTs [] xs = some ys) (hK : K (.c (.im (.sc u)))) : CallQ P σ g xs K t :=
  ⟨ys, _, .inr ⟨1, b, x, u, hg, rfl, hf⟩, rfl, .inr ha, hK⟩
/-- Not yet looked at. -/
def Hold (p : Prop) (_ : Tg p) : Prop := p
theorem Hold.mk {p : Prop} {t : Tg p} (h : p) : Hold p t := h
/-- The operations in the text's order; each turns nothing. -/
def qW (P : Program) (ops : Array Oper) : List Oper → St → (St → Prop) → Prop
  | [], s, K => K s
  | o :: r, s, K => match o.dst with
    | some d => d < s.N ∧ gdP (gdOf ops s.E o) (match o.op with
        | .call c => match c.callee with
          | .value f => match (opd s.E f).bind calleeOf, opsT s.E c.args.toList with
            | some (g, caps), some xs => fnOk P g = true ∧ CallQ P s.σ g (xs ++ caps) (fun v => qW P ops r (s.put d v) K) .mk
            | _, _ => False
          | _ => onS (ev1 P s.E s.σ o.op) (fun v => qW P ops r (s.put d v) K) .mk
        | .buildSlice t n ps => onS (bsV P s.E t n ps) (fun ys => qW P ops r (s.put d (.c (.ik n n ys))) K) .mk
        | op => onS (ev1 P s.E s.σ op) (fun v => qW P ops r (s.put d v) K) .mk)
      (qW P ops r (s.put d (.tp [])) K) .mk .mk
    | none => False
/-- An operation agrees with a frame in which its result stands already. -/
def Sol (P : Program) (ops : Array Oper) (σ : Sto) (N : Nat) (F : Env) (o : Oper) : Prop :=
  ∃ d r, o.dst = some d ∧ d < N ∧ get F d = some r ∧ ((gdOf ops F o = some true ∧ qv P F σ o r) ∨ (gdOf ops F o = some false ∧ r = .tp []))
theorem Sol.congr {ops : Array Oper} {N : Nat} {o : Oper} (h : Sol P ops σ N E o) (hl : ∀ t ∈ o.looksAt ops, get E t = get E' t) (hd : ∀ d, o.dst = some d → get E d = get E' d) : Sol P ops σ N E' o := by
  obtain ⟨d, r, h1, h2, h3, h4⟩ := h
  refine ⟨d, r, h1, h2, by rw [← hd d h1]; exact h3, ?_⟩
  rw [← gdOf_congr hl]
  rcases h4 with ⟨h4, h5⟩ | h4
  · exact .inl ⟨h4, qv_congr (looks_opnd hl) h5⟩
  · exact .inr h4

/-- No operation writes what an earlier one, or it itself, has looked at or written. -/
def lateB (ops : Array Oper) : List Oper → Bool
  | [] => true
  | o :: r => (o :: r).all (fun p => match p.dst with | some d => !(o.looksAt ops).contains d | none => false) && r.all (fun p => p.dst != o.dst) && lateB ops r
theorem qW_sol {ops : Array Oper} : ∀ {l : List Oper} {s : St} {K : St → Prop}, qW P ops l s K → lateB ops l = true →
    ∃ F, K ⟨s.N, F, s.σ⟩ ∧ (∀ t, (∀ o ∈ l, o.dst ≠ some t) → get F t = get s.E t) ∧ ∀ o ∈ l, Sol P ops s.σ s.N F o
  | [], s, K, h, _ => ⟨s.E, h, fun _ _ => rfl, by simp⟩
  | o :: r, s, K, h, hl => by
    simp only [lateB, Bool.and_eq_true] at hl
    obtain ⟨⟨hl1, hl2⟩, hl3⟩ := hl
    unfold qW gdP onS at h
    split at h
    · rename_i d hd
      obtain ⟨hdN, h⟩ := h
      -- in each case: a value v with which the rest goes on
      have main : ∀ v, qW P ops r (s.put d v) K → ((gdOf ops s.E o = some true ∧ qv P s.E s.σ o v) ∨ (gdOf ops s.E o = some false ∧ v = .tp [])) →
          ∃ F, K ⟨s.N, F, s.σ⟩ ∧ (∀ t, (∀ p ∈ o :: r, p.dst ≠ some t) → get F t = get s.E t) ∧ ∀ p ∈ o :: r, Sol P ops s.σ s.N F p := by
        intro v hq hv
        obtain ⟨F, h1, h2, h3⟩ := qW_sol hq hl3
        have hFd : get F d = some v := by
          rw [h2 d fun p hp => ?_]
          · simp [St.put, get_cons]
          · have := List.all_eq_true.1 hl2 p hp
            rw [hd] at this
            simpa using this
        have hno : ∀ t ∈ o.looksAt ops, ∀ p ∈ o :: r, p.dst ≠ some t := fun t ht p hp he => by
          have := List.all_eq_true.1 hl1 p hp
          rw [he] at this
          simp at this
          exact this ht
        refine ⟨F, h1, fun t ht => ?_, fun p hp => ?_⟩
        · rw [h2 t fun p hp => ht p (by simp [hp])]
          have : t ≠ d := fun e => ht o (by simp) (by rw [hd, e])
          simp [St.put, get_cons, this]
        · rcases List.mem_cons.1 hp with rfl | hp
          · have hag : ∀ t ∈ p.looksAt ops, get s.E t = get F t := fun t ht => by
              rw [h2 t fun q hq => hno t ht q (by simp [hq])]
              have : t ≠ d := fun e => hno t ht p (by simp) (by rw [hd, e])
              simp [St.put, get_cons, this]
            refine ⟨d, v, hd, hdN, hFd, ?_⟩
            rw [← gdOf_congr hag]
            rcases hv with ⟨g1, g2⟩ | g
            · exact .inl ⟨g1, qv_congr (looks_opnd hag) g2⟩
            · exact .inr g
          · exact h3 p hp
      split at h
      · rename_i hg
        split at h
        · rename_i c hop
          split at h
          · rename_i f hcal
            split at h
            · rename_i g caps xs hf hxs
              obtain ⟨hok, ys, v, g1, g2, g3, g4⟩ := h
              obtain ⟨x, hx, hgx⟩ := Option.bind_eq_some_iff.1 hf
              refine main v g4 (.inl ⟨hg, ?_⟩)
              unfold qv
              simp only [hop, hcal]
              exact ⟨x, g, caps, xs, ys, hx, hgx, hok, hxs, g1, g2, g3⟩
            · exact h.elim
          · rename_i hne
            split at h
            · rename_i v hv
              refine main v h (.inl ⟨hg, ?_⟩)
              unfold qv
              simp only [hop]
              cases hcal : c.callee with
              | value f => exact absurd hcal (hne f)
              | _ => rw [hop] at hv; exact hv
            · exact h.elim
        · rename_i t n ps hop
          split at h
          · rename_i ys hys
            refine main _ h (.inl ⟨hg, ?_⟩)
            unfold qv
            simp only [hop]
            exact ⟨ys, hys, rfl⟩
          · exact h.elim
        · rename_i hn1 hn2
          split at h
          · rename_i v hv
            refine main v h (.inl ⟨hg, ?_⟩)
            unfold qv
            split
            · rename_i c hc; exact absurd hc (hn1 c)
            · rename_i t n ps hc; exact absurd hc (hn2 t n ps)
            · exact hv
          · exact h.elim
      · rename_i hg; exact main _ h (.inr ⟨hg, rfl⟩)
      · exact h.elim
    · exact h.elim

/-- Is operation j listed, and does it write t? -/
def Wrote (ops : Array Oper) (n : Nat) (listed : Array Bool) (t : Nat) : Prop := ∃ j o, j < n ∧ listed.getD j false = true ∧ ops[j]? = some o ∧ o.dst = some t
/-- The frame when the listed operations have been performed. -/
def Mix (ops : Array Oper) (n : Nat) (listed : Array Bool) (E F E' : Env) : Prop := ∀ t, (Wrote ops n listed t → get E' t = get F t) ∧ (¬ Wrote ops n listed t → get E' t = get E t)
/-- Each operation that looks at what another one of the first n writes waits for it; edges lead back. -/
def waitB (ops : Array Oper) (n : Nat) : Bool :=
  (List.range ops.size).all fun i => match ops[i]? with
    | some o => o.after.all (fun e => !Region.binds .any e || decide (e.on < i)) &&
        (decide (n ≤ i) || (o.looksAt ops).all fun t => (List.range n).all fun j => match ops[j]? with
          | some q => q.dst != some t || o.after.any fun e => Region.binds .any e && e.on == j
          | none => true)
    | none => true
theorem waitB_spec {ops : Array Oper} {n i : Nat} {o : Oper} (h : waitB ops n = true) (hi : ops[i]? = some o) :
    (∀ e ∈ o.after, Region.binds .any e = true → e.on < i) ∧ (i < n → ∀ t ∈ o.looksAt ops, ∀ j q, j < n → ops[j]? = some q → q.dst = some t → ∃ e ∈ o.after, Region.binds .any e = true ∧ e.on = j) := by
  have hlt : i < ops.size := (Array.getElem?_eq_some_iff.1 hi).1
  have h1 := List.all_eq_true.1 h i (List.mem_range.2 hlt)
  simp only [hi, Bool.and_eq_true, Bool.or_eq_true, decide_eq_true_eq] at h1
  refine ⟨fun e he hb => ?_, fun hin t ht j q hj hq hd => ?_⟩
  · have := Array.all_eq_true_iff_forall_mem.1 h1.1 e he
    simpa [hb] using this
  · rcases h1.2 with h2 | h2
    · omega
    · have h3 := List.all_eq_true.1 (List.all_eq_true.1 h2 t ht) j (List.mem_range.2 hj)
      simp only [hq, hd, Bool.or_eq_true] at h3
      rcases h3 with h3 | h3
      · simp at h3
      · obtain ⟨e, he, hb⟩ := Array.any_eq_true'.1 h3
        simp only [Bool.and_eq_true, beq_iff_eq] at hb
        exact ⟨e, he, hb.1, hb.2⟩

theorem ready_least {ops : Array Oper} {n : Nat} {listed : Array Bool} (hw : waitB ops n = true) (hsz : listed.size = ops.size) : ∀ (i : Nat), i < ops.size → listed.getD i true = false → ∃ j ∈ Region.ready .any ops listed, j ≤ i := by
  intro i
  induction i using Nat.strongRecOn with
  | _ i ih =>
    intro hi hun
    by_cases h : i ∈ Region.ready .any ops listed
    · exact ⟨i, h, Nat.le_refl _⟩
    · have ho : ops[i]? = some ops[i] := by simp [hi]
      have : ∃ e ∈ ops[i].after, Region.binds .any e = true ∧ listed.getD e.on false = false := by
        apply Classical.byContradiction
        intro hno
        refine h (mem_ready.2 ⟨hun, _, ho, fun e he hb => ?_⟩)
        cases hl : listed.getD e.on false with
        | true => rfl
        | false => exact absurd ⟨e, he, hb, hl⟩ hno
      obtain ⟨e, he, hb, hl⟩ := this
      have hlt := (waitB_spec hw ho).1 e he hb
      obtain ⟨j, hj, hji⟩ := ih e.on hlt (by omega) (getD_in (by rw [hsz]; omega) hl)
      exact ⟨j, hj, by omega⟩

/-- The last operations, one behind the other. -/
theorem tail_any {ops : Array Oper} {n : Nat} {Q : Exit → Act → World → Prop} {K : St → Prop} (hw : waitB ops n = true) (hc : Region.chainB .any ops n = true)
    (hn : ∀ s' a' w', K s' → RelE β s' a' w' → Q .normal a' w') : ∀ (fuel m : Nat) (listed : Array Bool) (s : St) (a : Act) (w : World), n ≤ m → m ≤ ops.size → listed.size = ops.size → (∀ j, j < ops.size → listed.getD j true = decide (j < m)) →
      ops.size - m ≤ fuel → opsW P ops (ops.toList.drop m) s K → RelE β s a w → wpAny P .any ops Q fuel listed a w := by
  intro fuel
  induction fuel with
  | zero =>
    intro m listed s a w hnm hm hsz hl hf hop hr
    have : m = ops.size := by omega
    subst this
    have hnil : Region.ready .any ops listed = [] := by
      apply List.eq_nil_iff_forall_not_mem.2
      intro j hj
      obtain ⟨h1, o, ho, _⟩ := mem_ready.1 hj
      have := (Array.getElem?_eq_some_iff.1 ho).1
      rw [hl j this] at h1
      simp [this] at h1
    refine ⟨hnil, ?_⟩
    rw [List.drop_of_length_le (by simp)] at hop
    exact hn _ _ _ hop hr
  | succ fuel ih =>
    intro m listed s a w hnm hm hsz hl hf hop hr
    by_cases hme : m = ops.size
    · subst hme
      have hnil : Region.ready .any ops listed = [] := by
        apply List.eq_nil_iff_forall_not_mem.2
        intro j hj
        obtain ⟨h1, o, ho, _⟩ := mem_ready.1 hj
        have := (Array.getElem?_eq_some_iff.1 ho).1
        rw [hl j this] at h1
        simp [this] at h1
      rw [List.drop_of_length_le (by simp)] at hop
      exact ⟨fun _ => hn _ _ _ hop hr, fun i hi => by rw [hnil] at hi; cases hi⟩
    · have hlt : m < ops.size := by omega
      have hum : listed.getD m true = false := by rw [hl m hlt]; simp
      have honly : ∀ i ∈ Region.ready .any ops listed, i = m := fun i hi => by
        obtain ⟨h1, o, ho, hall⟩ := mem_ready.1 hi
        have hil := (Array.getElem?_eq_some_iff.1 ho).1
        rw [hl i hil] at h1
        simp at h1
        rcases Nat.lt_or_ge m i with h | h
        · have hcc := List.all_eq_true.1 hc i (List.mem_range.2 hil)
          simp only [Bool.or_eq_true, decide_eq_true_eq] at hcc
          rcases hcc with hcc | hcc
          · omega
          · obtain ⟨oi, ho2, e, he, hb, hon⟩ := Region.waitsFor_spec hcc
            have : oi = o := Option.some.inj (ho2.symm.trans ho)
            subst this
            have h2 := hall e he hb
            rw [hon] at h2
            have h3 := hl (i - 1) (by omega)
            have h4 : listed.getD (i - 1) true = listed.getD (i - 1) false := by
              have : i - 1 < listed.size := by omega
              simp [this]
            rw [h4, h2] at h3
            simp at h3
            omega
        · omega
      obtain ⟨j, hj, _⟩ := ready_least hw hsz m hlt hum
      have hjm := honly j hj
      subst hjm
      refine ⟨fun h => (by rw [h] at hj; cases hj), fun i hi => ?_⟩
      have := honly i hi
      subst this
      have ho : ops[i]? = some ops[i] := by simp [hlt]
      have hdrop : ops.toList.drop i = ops[i] :: ops.toList.drop (i + 1) := by rw [List.drop_eq_getElem_cons (by simpa using hlt)]; simp
      rw [hdrop] at hop
      have hnext : ∀ s' a' w', opsW P ops (ops.toList.drop (i + 1)) s' K → RelE β s' a' w' → wpAny P .any ops Q fuel (listed.setIfInBounds i true) a' w' := fun s' a' w' h1 h2 =>
        ih (i + 1) _ s' a' w' (by omega) (by omega) (by simp [hsz]) (fun j hj => by
          by_cases hij : i = j
          · subst hij; simp [hsz, hj]
          · have := hl j hj
            rw [getD_set_ne true hij, this]
            simp only [decide_eq_decide]; omega) (by omega) h1 h2
      unfold wpOp
      simp only [ho]
      obtain ⟨ω, κ, hr'⟩ := id hr
      unfold opsW gdP at hop
      split at hop
      · rename_i hg
        rw [if_pos (gdOf_ok hr'.env hg)]
        exact .inl (wpO_ok hop hr hnext)
      · rename_i hg
        have hf' := gdOf_ok hr'.env hg
        rw [if_neg (by rw [hf']; simp)]
        split at hop
        · rename_i d hd
          rw [hd]
          exact hnext _ _ _ hop.2 ⟨ω, κ, hr'.put hop.1 ⟨[], rfl, rfl, by simp⟩⟩
        · rename_i hd
          rw [hd]
          exact hnext _ _ _ hop hr
      · exact hop.elim

theorem head_any {ops : Array Oper} {n : Nat} {Q : Exit → Act → World → Prop} {K : St → Prop} {s : St} {F : Env} (hw : waitB ops n = true) (hc : Region.chainB .any ops n = true) (hs : n < ops.size → Region.sinkB .any ops n = true) (hnsz : n ≤ ops.size)
    (hout : ∀ t, (∀ o ∈ ops.toList.take n, o.dst ≠ some t) → get F t = get s.E t) (hsol : ∀ o ∈ ops.toList.take n, Sol P ops s.σ s.N F o)
    (hop : opsW P ops (ops.toList.drop n) ⟨s.N, F, s.σ⟩ K) (hn : ∀ s' a' w', K s' → RelE β s' a' w' → Q .normal a' w') :
    ∀ (fuel : Nat) (listed : Array Bool) (E' : Env) (a : Act) (w : World), HeadInv .any ops n listed → (((List.range ops.size).filter fun j => !listed.getD j true).length ≤ fuel) → Mix ops n listed s.E F E' →
      RelE β ⟨s.N, E', s.σ⟩ a w → wpAny P .any ops Q fuel listed a w := by
  have hmem : ∀ {i : Nat} {o : Oper}, i < n → ops[i]? = some o → o ∈ ops.toList.take n := fun {i o} hi ho => by
    refine List.mem_of_getElem? (i := i) ?_
    rw [List.getElem?_take_of_lt hi]; simpa using ho
  intro fuel
  induction fuel with
  | zero =>
    intro listed E' a w inv hf hmix hr
    -- all are listed
    have hall : ∀ j, j < ops.size → listed.getD j true = true := fun j hj => by
      cases hl : listed.getD j true with
      | true => rfl
      | false =>
        have : j ∈ (List.range ops.size).filter fun j => !listed.getD j true := List.mem_filter.2 ⟨List.mem_range.2 hj, by simp [hl]⟩
        have := List.length_pos_of_mem this
        omega
    have hne : n = ops.size := by
      rcases Nat.lt_or_ge n ops.size with h | h
      · have := inv.tail n (Nat.le_refl _) h; rw [hall n h] at this; cases this
      · omega
    refine tail_any (s := ⟨s.N, F, s.σ⟩) (n := n) hw hc hn 0 ops.size listed a w (by omega) (Nat.le_refl _) inv.size (fun j hj => by rw [hall j hj]; simp [hj]) (by omega) (by rw [← hne]; exact hop) (hr.weak ⟨rfl, fun t x hx => ?_, fun _ _ h => h⟩)
    by_cases hwr : Wrote ops n listed t
    · rw [(hmix t).1 hwr]; exact hx
    · rw [(hmix t).2 hwr, ← hout t fun o ho he => hwr ?_]
      · exact hx
      · obtain ⟨i, hi⟩ := List.getElem?_of_mem ho
        have hin : i < n := by have := (List.getElem?_eq_some_iff.1 hi).1; simp at this; omega
        rw [List.getElem?_take_of_lt hin] at hi
        refine ⟨i, o, hin, ?_, by simpa using hi, he⟩
        have : i < listed.size := by rw [inv.size]; omega
        have h2 := hall i (by omega)
        simpa [this] using h2
  | succ fuel ih =>
    intro listed E' a w inv hf hmix hr
    by_cases hdone : ∀ j, j < n → listed.getD j true = true
    · -- the first n stand: the rest in order
      have hl : ∀ j, j < ops.size → listed.getD j true = decide (j < n) := fun j hj => by
        by_cases hjn : j < n
        · rw [hdone j hjn]; simp [hjn]
        · rw [inv.tail j (by omega) hj]; simp [hjn]
      have hcnt : ops.size - n ≤ fuel + 1 := by
        refine Nat.le_trans ?_ hf
        have hsub : ((List.range ops.size).filter fun j => !listed.getD j true) = (List.range ops.size).filter fun j => decide (n ≤ j) := by
          apply List.filter_congr
          intro j hj
          rw [hl j (List.mem_range.1 hj)]
          by_cases hjn : j < n
          · simp [hjn]
          · simp [hjn]; omega
        rw [hsub]
        have : ∀ N, N - n ≤ ((List.range N).filter fun j => decide (n ≤ j)).length := by
          intro N
          induction N with
          | zero => simp
          | succ N ihN =>
            rw [List.range_succ, List.filter_append, List.length_append]
            by_cases h : n ≤ N
            · simp [h]; omega
            · omega
        exact this _
      refine tail_any (s := ⟨s.N, F, s.σ⟩) (n := n) hw hc hn (fuel + 1) n listed a w (Nat.le_refl _) hnsz inv.size hl hcnt hop (hr.weak ⟨rfl, fun t x hx => ?_, fun _ _ h => h⟩)
      by_cases hwr : Wrote ops n listed t
      · rw [(hmix t).1 hwr]; exact hx
      · rw [(hmix t).2 hwr, ← hout t fun o ho he => hwr ?_]
        · exact hx
        · obtain ⟨i, hi⟩ := List.getElem?_of_mem ho
          have hin : i < n := by have := (List.getElem?_eq_some_iff.1 hi).1; simp at this; omega
          rw [List.getElem?_take_of_lt hin] at hi
          refine ⟨i, o, hin, ?_, by simpa using hi, he⟩
          have : i < listed.size := by rw [inv.size]; omega
          have h2 := hdone i hin
          simpa [this] using h2
    · obtain ⟨j0, hj0, hun0⟩ : ∃ j, j < n ∧ listed.getD j true = false := by
        apply Classical.byContradiction
        intro hno
        refine hdone fun j hj => ?_
        cases hl : listed.getD j true with
        | true => rfl
        | false => exact absurd ⟨j, hj, hl⟩ hno
      have hpre : ∀ i ∈ Region.ready .any ops listed, i < n := fun i hi => by
        rcases Nat.lt_or_ge i n with h | h
        · exact h
        · have hil : i < ops.size := by obtain ⟨_, o, ho, _⟩ := mem_ready.1 hi; exact (Array.getElem?_eq_some_iff.1 ho).1
          exact absurd hi (tail_waits (hs (by omega)) hc (by omega) inv _ j0 rfl hj0 hun0 i h)
      obtain ⟨j1, hj1, _⟩ := ready_least hw inv.size j0 (by omega) hun0
      refine ⟨fun h => (by rw [h] at hj1; cases hj1), fun i hi => ?_⟩
      have hin := hpre i hi
      obtain ⟨hui, o, ho, hall⟩ := mem_ready.1 hi
      obtain ⟨d, r, hd, hdN, hFd, hsl⟩ := hsol o (hmem hin ho)
      -- it looks at what stands already
      have hag : ∀ t ∈ o.looksAt ops, get F t = get E' t := fun t ht => by
        by_cases hwr : Wrote ops n listed t
        · exact ((hmix t).1 hwr).symm
        · rw [(hmix t).2 hwr, hout t fun q hq he => ?_]
          obtain ⟨j, hj⟩ := List.getElem?_of_mem hq
          have hjn : j < n := by have := (List.getElem?_eq_some_iff.1 hj).1; simp at this; omega
          rw [List.getElem?_take_of_lt hjn] at hj
          have hj' : ops[j]? = some q := by simpa using hj
          obtain ⟨e, he1, hb, hon⟩ := (waitB_spec hw ho).2 hin t ht j q hjn hj' he
          exact hwr ⟨j, q, hjn, by rw [← hon]; exact hall e he1 hb, hj', he⟩
      have hnext : ∀ a' w', RelE β ((⟨s.N, E', s.σ⟩ : St).put d r) a' w' → wpAny P .any ops Q fuel (listed.setIfInBounds i true) a' w' := fun a' w' hr' => by
        have hil : i < ops.size := (Array.getElem?_eq_some_iff.1 ho).1
        refine ih _ ((d, r) :: E') a' w' (inv.set hi hin) ?_ (fun t => ?_) hr'
        · have hlt : ((List.range ops.size).filter fun j => !(listed.setIfInBounds i true).getD j true).length < ((List.range ops.size).filter fun j => !listed.getD j true).length := by
            have e : ((List.range ops.size).filter fun j => !(listed.setIfInBounds i true).getD j true) = ((List.range ops.size).filter fun j => !listed.getD j true).filter (fun j => j != i) := by
              rw [List.filter_filter]
              apply List.filter_congr
              intro j hj
              by_cases hij : i = j
              · subst hij; simp [inv.size, hil]
              · rw [getD_set_ne true hij]; simp [Ne.symm hij]
            rw [e]
            refine List.length_filter_lt_length_iff_exists.2 ⟨i, List.mem_filter.2 ⟨List.mem_range.2 hil, by simp [hui]⟩, by simp⟩
          omega
        · have hset : (listed.setIfInBounds i true).getD i false = true := by simp [inv.size, hil]
          by_cases htd : t = d
          · subst htd
            exact ⟨fun _ => by rw [get_cons, if_pos rfl, hFd], fun h => absurd ⟨i, o, hin, hset, ho, hd⟩ h⟩
          · have hiff : Wrote ops n (listed.setIfInBounds i true) t ↔ Wrote ops n listed t := by
              constructor
              · rintro ⟨j, q, h1, h2, h3, h4⟩
                by_cases hij : i = j
                · subst hij
                  have : q = o := Option.some.inj (h3.symm.trans ho)
                  subst this
                  rw [hd] at h4
                  exact absurd (Option.some.inj h4).symm htd
                · exact ⟨j, q, h1, by rwa [getD_set_ne false hij] at h2, h3, h4⟩
              · rintro ⟨j, q, h1, h2, h3, h4⟩
                by_cases hij : i = j
                · subst hij; exact ⟨i, q, h1, hset, h3, h4⟩
                · exact ⟨j, q, h1, by rw [getD_set_ne false hij]; exact h2, h3, h4⟩
            rw [get_cons, if_neg htd, hiff]
            exact hmix t
      unfold wpOp
      simp only [ho]
      obtain ⟨ω, κ, hr'⟩ := id hr
      rcases hsl with ⟨hg, hq⟩ | ⟨hg, rfl⟩
      · rw [gdOf_congr hag] at hg
        rw [if_pos (gdOf_ok hr'.env hg)]
        exact .inl (qv_ok (s := ⟨s.N, E', s.σ⟩) (qv_congr (looks_opnd hag) hq) hd hdN hr hnext)
      · rw [gdOf_congr hag] at hg
        have hf' := gdOf_ok hr'.env hg
        rw [if_neg (by rw [hf']; simp), hd]
        exact hnext _ _ ⟨ω, κ, hr'.put hdN ⟨[], rfl, rfl, by simp⟩⟩

/-- What is asked of a region's form: the first n operations may stand in any order, the others follow. -/
def drawB (ops : Array Oper) (n : Nat) : Bool := waitB ops n && Region.chainB .any ops n && (decide (ops.size ≤ n) || Region.sinkB .any ops n) && decide (n ≤ ops.size) && lateB ops (ops.toList.take n)
/-- **A region whose order is open.** -/
theorem Sm.draw {id n : Nat} {ops : Array Oper} {K : Exit → St → Prop} (hm : P.follows .mixedOrders = true) (hb : drawB ops n = true)
    (h : qW P ops (ops.toList.take n) s fun s' => opsW P ops (ops.toList.drop n) s' (K .normal)) : Sm P (.region id ops true) s K := fun β a w hr => by
  simp only [drawB, Bool.and_eq_true, Bool.or_eq_true, decide_eq_true_eq] at hb
  obtain ⟨⟨⟨⟨hw, hc⟩, hs⟩, hnsz⟩, hl⟩ := hb
  obtain ⟨F, h1, h2, h3⟩ := qW_sol h hl
  refine wp_region_any hm ?_
  have hr' : RelE β s a { w with drawn := w.drawn + 1 } := by
    obtain ⟨ω, κ, hr⟩ := hr
    exact ⟨ω, κ, hr.grown ⟨rfl, rfl, rfl, Nat.le_refl _, fun _ _ _ => rfl⟩⟩
  have hg : ∀ j, (Array.replicate ops.size false).getD j false = false := fun j => getD_replicate_false _ _
  refine head_any (s := s) (F := F) hw hc (fun hlt => hs.resolve_left (by omega)) hnsz h2 h3 h1 (fun s' a' w' hk hr => ⟨s', hk, hr⟩) ops.size _ s.E a _ ⟨by simp, fun j oj hj hl => (by rw [hg] at hl; cases hl), fun t _ ht => (by simp [ht])⟩ ?_ (fun t => ⟨fun ⟨j, o, _, hj, _⟩ => (by rw [hg] at hj; cases hj), fun _ => rfl⟩) hr'
  refine Nat.le_trans (List.length_filter_le _ _) (by simp)
end
end Go.VC
/- Rules in the form in which they are used. -/
set_option linter.unusedSimpArgs false
set_option linter.unusedVariables false
namespace Go.VC
open Go Go.RowKit
section
variable {s : St} {P : Program}

/-- A test. -/
def condK (P : Program) (x : Operand) (c d : Code) (s : St) (K : Exit → St → Prop) : Prop :=
  match opd s.E x with
  | some (.c (.im (.sc (.bool b)))) => (b = true → Sm P c s K) ∧ (b = false → Sm P d s K)
  | _ => False
theorem Sm.test {x : Operand} {c d : Code} {K : Exit → St → Prop} (h : condK P x c d s K) : Sm P (.cond x c d) s K := by
  unfold condK at h
  split at h
  · rename_i b hx; exact Sm.cond hx h.1 h.2
  · exact h.elim

/-- The entries of a frame that are still wanted. -/
def subE (E : Env) : Env → Prop
  | [] => True
  | (t, x) :: r => get E t = some x ∧ subE E r
def subS (σ : Sto) : Sto → Prop
  | [] => True
  | (k, o) :: r => get σ k = some o ∧ subS σ r
theorem subE_ok {E E' : Env} (h : subE E E') : ∀ t x, get E' t = some x → get E t = some x := by
  induction E' with
  | nil => intro t x hx; cases hx
  | cons p r ih =>
    obtain ⟨u, y⟩ := p
    intro t x hx
    rw [get_cons] at hx
    split at hx
    · rename_i ht; subst ht; obtain rfl := Option.some.inj hx; exact h.1
    · exact ih h.2 t x hx
theorem subS_ok {σ σ' : Sto} (h : subS σ σ') : ∀ t x, get σ' t = some x → get σ t = some x := by
  induction σ' with
  | nil => intro t x hx; cases hx
  | cons p r ih =>
    obtain ⟨u, y⟩ := p
    intro t x hx
    rw [get_cons] at hx
    split at hx
    · rename_i ht; subst ht; obtain rfl := Option.some.inj hx; exact h.1
    · exact ih h.2 t x hx
theorem Weak.of {s s' : St} (h1 : s'.N = s.N) (h2 : subE s.E s'.E) (h3 : subS s.σ s'.σ) : Weak s s' := ⟨h1, subE_ok h2, subS_ok h3⟩

def memN (t : Nat) : List Nat → Bool
  | [] => false
  | m :: r => if t = m then true else memN t r
def dropE (M : List Nat) : Env → Env
  | [] => []
  | (t, x) :: r => if memN t M then dropE M r else (t, x) :: dropE M r
theorem dropE_get {M : List Nat} : ∀ {E : Env} {t : Nat} {x : TV}, get (dropE M E) t = some x → get E t = some x
  | [], t, x, h => by cases h
  | (u, y) :: r, t, x, h => by
    have hno : ∀ {E : Env} {t : Nat}, memN t M = true → get (dropE M E) t = none := fun {E} => by
      induction E with
      | nil => intro t _; rfl
      | cons p q ih =>
        intro t ht
        obtain ⟨v, z⟩ := p
        rw [dropE]
        split
        · exact ih ht
        · rename_i hv
          rw [get_cons, if_neg fun e => hv (by rw [← e]; exact ht)]
          exact ih ht
    rw [dropE] at h
    rw [get_cons]
    split at h
    · rename_i hu
      split
      · rename_i e
        rw [← e] at hu
        rw [hno hu] at h; cases h
      · exact dropE_get h
    · rw [get_cons] at h
      split at h
      · rename_i e; rw [if_pos e]; exact h
      · rename_i e; rw [if_neg e]; exact dropE_get h
/-- The next round: a frame that fits, at a lower number. -/
def RoundC {α : Type} (inv : α → St) (ok : α → Prop) (μ : α → Nat) (x : α) (s' : St) : Prop := ∃ y, ok y ∧ μ y < μ x ∧ Weak s' (inv y)
/-- A loop: 'inv x' is the frame at a round's head, for an x that is 'ok'; 'μ' goes down. -/
theorem Sm.rounds {α : Type} {c : Code} {K : Exit → St → Prop} (inv : α → St) (ok : α → Prop) (μ : α → Nat) (x0 : α) (h0 : ok x0) (hw : Weak s (inv x0))
    (hround : ∀ x, ok x → Sm P c (inv x) (Kn (RoundC inv ok μ x) K)) : Sm P (.loop c) s K := by
  refine Sm.weak hw (Sm.loop (fun n s => ∃ x, ok x ∧ μ x = n ∧ Weak s (inv x)) ⟨μ x0, x0, h0, rfl, rfl, fun _ _ h => h, fun _ _ h => h⟩ fun n s' ⟨x, h1, h2, h3⟩ => ?_)
  refine Sm.weak h3 ((hround x h1).mono fun e s'' h => ?_)
  cases e with
  | normal => obtain ⟨y, g1, g2, g3⟩ := h; exact ⟨μ y, by omega, y, g1, rfl, g3⟩
  | _ => exact h
theorem RoundC.mk {α : Type} {inv : α → St} {ok : α → Prop} {μ : α → Nat} {x : α} {s' : St} (y : α) (h1 : ok y) (h2 : μ y < μ x) (h3 : s'.N = (inv y).N) (h4 : subE s'.E (inv y).E) (h5 : subS s'.σ (inv y).σ) : RoundC inv ok μ x s' :=
  ⟨y, h1, h2, Weak.of h3.symm h4 h5⟩
theorem Cont.go {d : Code} {K : Exit → St → Prop} (h : Sm P d s K) : Cont P d K s := h
/-- Is an object there? -/
def subS' (σ : Sto) (σ1 : Sto) : Prop := subS σ σ1
theorem RetK.own {l : List ResultVar} {σ1 : Sto} {r : TV} {e : Exit} (he : e = .normal ∨ e = .ret) (h : retOf P s l = some r) (h' : subS s.σ σ1) : RetK P l σ1 r e s := ⟨he, [], h, subS_ok h'⟩
theorem RetK.im {l : List ResultVar} {r : TV} {e : Exit} (he : e = .normal ∨ e = .ret) (ks : List Nat) (h : retOf P (s.frzAll ks) l = some r) : RetK P l [] r e s := ⟨he, ks, h, fun k o hk => by rw [get_nil] at hk; cases hk⟩

/-! What 'simp' may look into: the frame, not what is left to do. -/
theorem Cont_congr {d : Code} {K : Exit → St → Prop} {s s' : St} (h : s = s') : Cont P d K s = Cont P d K s' := by rw [h]
theorem Sm_congr {d : Code} {K : Exit → St → Prop} {s s' : St} (h : s = s') : Sm P d s K = Sm P d s' K := by rw [h]
theorem Kn_congr {R : St → Prop} {K : Exit → St → Prop} {e : Exit} {s s' : St} (h : s = s') : Kn R K e s = Kn R K e s' := by rw [h]
theorem Kb_congr {n : Nat} {K : Exit → St → Prop} {e : Exit} {s s' : St} (h : s = s') : Kb n K e s = Kb n K e s' := by rw [h]
theorem wpO_congr {o : Oper} {K : St → Prop} {s s' : St} (h : s = s') : wpO P o s K = wpO P o s' K := by rw [h]
theorem opsW_congr {ops : Array Oper} {l : List Oper} {K : St → Prop} {s s' : St} (h : s = s') : opsW P ops l s K = opsW P ops l s' K := by rw [h]
theorem qW_congr {ops : Array Oper} {l : List Oper} {K : St → Prop} {s s' : St} (h : s = s') : qW P ops l s K = qW P ops l s' K := by rw [h]
theorem RoundC_congr {α : Type} {inv : α → St} {ok : α → Prop} {μ : α → Nat} {x : α} {s s' : St} (h : s = s') : RoundC inv ok μ x s = RoundC inv ok μ x s' := by rw [h]
theorem RetK_congr {l : List ResultVar} {σ1 : Sto} {r : TV} {e : Exit} {s s' : St} (h : s = s') : RetK P l σ1 r e s = RetK P l σ1 r e s' := by rw [h]
theorem CallQ_congr {g : FuncId} {xs : List TV} {K : TV → Prop} {t : Tg K} {σ σ' : Sto} (h : σ = σ') : CallQ P σ g xs K t = CallQ P σ' g xs K t := by rw [h]
theorem CallG_congr {g d : Nat} {xs : List TV} {K : St → Prop} {t : Tg K} {s s' : St} (h : s = s') : CallG P s g xs d K t = CallG P s' g xs d K t := by rw [h]
theorem condK_congr {x : Operand} {c d : Code} {K : Exit → St → Prop} {s s' : St} (h : s = s') : condK P x c d s K = condK P x c d s' K := by rw [h]
theorem opsW_nil {ops : Array Oper} {s : St} {K : St → Prop} : opsW P ops [] s K = K s := rfl
theorem opsW_cons {ops : Array Oper} {o : Oper} {r : List Oper} {s : St} {K : St → Prop} : opsW P ops (o :: r) s K = gdP (gdOf ops s.E o) (wpO P o s fun s' => opsW P ops r s' K)
    (match o.dst with
      | some d => d < s.N ∧ opsW P ops r (s.put d (.tp [])) K
      | none => opsW P ops r s K) .mk .mk := rfl
theorem qW_nil {ops : Array Oper} {s : St} {K : St → Prop} : qW P ops [] s K = K s := rfl
theorem qW_cons {ops : Array Oper} {o : Oper} {r : List Oper} {s : St} {K : St → Prop} : qW P ops (o :: r) s K = match o.dst with
    | some d => d < s.N ∧ gdP (gdOf ops s.E o) (match o.op with
        | .call c => match c.callee with
          | .value f => match (opd s.E f).bind calleeOf, opsT s.E c.args.toList with
            | some (g, caps), some xs => fnOk P g = true ∧ CallQ P s.σ g (xs ++ caps) (fun v => qW P ops r (s.put d v) K) .mk
            | _, _ => False
          | _ => onS (ev1 P s.E s.σ o.op) (fun v => qW P ops r (s.put d v) K) .mk
        | .buildSlice t n ps => onS (bsV P s.E t n ps) (fun ys => qW P ops r (s.put d (.c (.ik n n ys))) K) .mk
        | op => onS (ev1 P s.E s.σ op) (fun v => qW P ops r (s.put d v) K) .mk)
      (qW P ops r (s.put d (.tp [])) K) .mk .mk
    | none => False := by
  rw [qW] <;> rfl
attribute [congr] Cont_congr CallG_congr CallQ_congr Sm_congr Kn_congr Kb_congr wpO_congr opsW_congr qW_congr RoundC_congr RetK_congr condK_congr

theorem wrap_i64 {x : Int} (h1 : -9223372036854775808 ≤ x) (h2 : x ≤ 9223372036854775807) : IntKind.i64.wrap x = x := IntWalk.i64_in _ ⟨h1, h2⟩

/-- Does it turn nothing? -/
def quietB : Op → Bool
  | .store .. | .box .. | .alloc _ | .makeSlice .. => false
  | .call c => match c.callee with | .builtin .append => false | _ => true
  | _ => true
def headN (ops : Array Oper) : Nat := (ops.toList.takeWhile fun o => quietB o.op).length
/-- The operations in the text's order, up to the first one that turns something; then the others. -/
def dW (P : Program) (ops : Array Oper) : List Oper → St → (St → Prop) → Prop
  | [], s, K => K s
  | o :: r, s, K => if quietB o.op = true then qW P ops [o] s (fun s' => dW P ops r s' K) else opsW P ops (o :: r) s K
theorem dW_nil {ops : Array Oper} {s : St} {K : St → Prop} : dW P ops [] s K = K s := rfl
theorem dW_cons {ops : Array Oper} {o : Oper} {r : List Oper} {s : St} {K : St → Prop} : dW P ops (o :: r) s K = if quietB o.op = true then qW P ops [o] s (fun s' => dW P ops r s' K) else opsW P ops (o :: r) s K := rfl
theorem qW_two {ops : Array Oper} {o : Oper} {r : List Oper} {s : St} {K : St → Prop} : qW P ops (o :: r) s K = qW P ops [o] s (fun s' => qW P ops r s' K) := rfl
theorem qW1_mono {ops : Array Oper} {o : Oper} {s : St} {K K' : St → Prop} (hK : ∀ s, K s → K' s) (h : qW P ops [o] s K) : qW P ops [o] s K' := by
  unfold qW gdP onS at h ⊢
  simp only [qW] at h ⊢
  split at h
  · refine ⟨h.1, ?_⟩
    have h := h.2
    split at h
    · split at h
      · split at h
        · split at h
          · obtain ⟨h1, ys, v, h2, h3, h4, h5⟩ := h
            exact ⟨h1, ys, v, h2, h3, h4, hK _ h5⟩
          · exact h.elim
        · split at h
          · exact hK _ h
          · exact h.elim
      · split at h
        · exact hK _ h
        · exact h.elim
      · split at h
        · exact hK _ h
        · exact h.elim
    · exact hK _ h
    · exact h.elim
  · exact h.elim
theorem dW_qW {ops : Array Oper} : ∀ {l : List Oper} {s : St} {K : St → Prop}, dW P ops l s K → qW P ops (l.take (l.takeWhile fun o => quietB o.op).length) s fun s' => opsW P ops (l.drop (l.takeWhile fun o => quietB o.op).length) s' K
  | [], s, K, h => h
  | o :: r, s, K, h => by
    rw [dW_cons] at h
    by_cases hq : quietB o.op = true
    · rw [if_pos hq] at h
      simp only [List.takeWhile_cons, hq, if_true, List.length_cons, List.take_succ_cons, List.drop_succ_cons]
      rw [qW_two]
      exact qW1_mono (fun s' h' => dW_qW h') h
    · rw [if_neg hq] at h
      simp only [List.takeWhile_cons, hq, if_false, List.length_nil, List.take_zero, List.drop_zero]
      exact h
theorem dW_step {ops : Array Oper} {o : Oper} {r : List Oper} {s : St} {K : St → Prop} : dW P ops (o :: r) s K = if quietB o.op = true then (match o.dst with
    | some d => d < s.N ∧ gdP (gdOf ops s.E o) (match o.op with
        | .call c => match c.callee with
          | .value f => match (opd s.E f).bind calleeOf, opsT s.E c.args.toList with
            | some (g, caps), some xs => fnOk P g = true ∧ CallQ P s.σ g (xs ++ caps) (fun v => dW P ops r (s.put d v) K) .mk
            | _, _ => False
          | _ => onS (ev1 P s.E s.σ o.op) (fun v => dW P ops r (s.put d v) K) .mk
        | .buildSlice t n ps => onS (bsV P s.E t n ps) (fun ys => dW P ops r (s.put d (.c (.ik n n ys))) K) .mk
        | op => onS (ev1 P s.E s.σ op) (fun v => dW P ops r (s.put d v) K) .mk)
      (dW P ops r (s.put d (.tp [])) K) .mk .mk
    | none => False) else opsW P ops (o :: r) s K := by
  rw [dW_cons, qW]
  rfl
theorem dW_congr {ops : Array Oper} {l : List Oper} {K : St → Prop} {s s' : St} (h : s = s') : dW P ops l s K = dW P ops l s' K := by rw [h]
attribute [congr] dW_congr
/-- A region whose order is open: what turns something comes last. -/
theorem Sm.drawT {id : Nat} {ops : Array Oper} {K : Exit → St → Prop} (hm : P.follows .mixedOrders = true) (hb : drawB ops (headN ops) = true)
    (h : dW P ops ops.toList s (K .normal)) : Sm P (.region id ops true) s K := Sm.draw hm hb (dW_qW h)

/-- A guard that is not known yet. -/
theorem gdP_split {b : Bool} {X Y : Prop} {t : Tg X} {t' : Tg Y} (h1 : b = true → gdP (some true) X Y t t') (h2 : b = false → gdP (some false) X Y t t') : gdP (some b) X Y t t' := by
  cases b
  · exact h2 rfl
  · exact h1 rfl
/-- The variables that are still wanted. -/
def delN (t : Nat) : List Nat → List Nat
  | [] => []
  | m :: r => if t = m then delN t r else m :: delN t r
theorem delN_mem {t u : Nat} : ∀ {L : List Nat}, memN u (delN t L) = true → memN u L = true ∧ u ≠ t
  | [], h => by cases h
  | m :: r, h => by
    rw [delN] at h
    split at h
    · rename_i e
      obtain ⟨h1, h2⟩ := delN_mem h
      refine ⟨?_, h2⟩
      rw [memN]
      split
      · rfl
      · exact h1
    · rename_i e
      rw [memN] at h ⊢
      split at h
      · rename_i e2
        exact ⟨by rw [if_pos e2], fun e3 => e (by rw [← e3, e2])⟩
      · rename_i e2
        obtain ⟨h1, h2⟩ := delN_mem h
        exact ⟨by rw [if_neg e2]; exact h1, h2⟩
def keepE (L : List Nat) : Env → Env
  | [] => []
  | (t, x) :: r => if memN t L then (t, x) :: keepE (delN t L) r else keepE L r
theorem keepE_get : ∀ {E : Env} {L : List Nat} {t : Nat} {x : TV}, get (keepE L E) t = some x → memN t L = true ∧ get E t = some x
  | [], L, t, x, h => by cases h
  | (u, y) :: r, L, t, x, h => by
    rw [keepE] at h
    split at h
    · rename_i hu
      rw [get_cons] at h ⊢
      split
      · rename_i e
        subst e
        rw [if_pos rfl] at h
        exact ⟨hu, h⟩
      · rename_i e
        rw [if_neg e] at h
        obtain ⟨h1, h2⟩ := keepE_get h
        exact ⟨(delN_mem h1).1, h2⟩
    · rename_i hu
      obtain ⟨h1, h2⟩ := keepE_get h
      refine ⟨h1, ?_⟩
      rw [get_cons, if_neg fun e => hu (by subst e; exact h1)]
      exact h2
theorem Sm.keep (L : List Nat) {c : Code} {K : Exit → St → Prop} (h : Sm P c ⟨s.N, keepE L s.E, s.σ⟩ K) : Sm P c s K :=
  Sm.weak (s' := ⟨s.N, keepE L s.E, s.σ⟩) ⟨rfl, fun t x hx => (keepE_get (L := L) (E := s.E) hx).2, fun _ _ h => h⟩ h
theorem Cont.keep (L : List Nat) {d : Code} {K : Exit → St → Prop} (h : Sm P d ⟨s.N, keepE L s.E, s.σ⟩ K) : Cont P d K s := Sm.keep L h
/-- A loop; what it does not turn is kept. 'M': the variables that it turns; 'u x': what they are at a round's head; 'τ x': the objects then. -/
theorem Sm.turns {α : Type} {c : Code} {K : Exit → St → Prop} (M : List Nat) (u : α → Env) (τ : α → Sto) (ok : α → Prop) (μ : α → Nat) (x0 : α) (h0 : ok x0) (hE : subE s.E (u x0)) (hS : subS s.σ (τ x0))
    (hround : ∀ x, ok x → Sm P c ⟨s.N, u x ++ dropE M s.E, τ x⟩ (Kn (RoundC (fun x => ⟨s.N, u x ++ dropE M s.E, τ x⟩) ok μ x) K)) : Sm P (.loop c) s K := by
  refine Sm.rounds (fun x => ⟨s.N, u x ++ dropE M s.E, τ x⟩) ok μ x0 h0 ⟨rfl, fun t x hx => ?_, subS_ok hS⟩ hround
  simp only at hx
  rw [get_append] at hx
  cases hu : get (u x0) t with
  | some y =>
    rw [hu] at hx
    obtain rfl := Option.some.inj hx
    exact subE_ok hE t _ hu
  | none =>
    rw [hu] at hx
    exact dropE_get hx
end
end Go.VC
/- Reading the arguments of a statement's function as trees: no statement of a program. -/
set_option linter.unusedSimpArgs false
set_option linter.unusedVariables false
namespace Go.VC
open Go Go.RowKit

abbrev RP (w : World) (ω : Lab) : TV → Value → Prop := RT w ω (fun _ => undef) []
/-- All that is there is all's. -/
def belowL (w : World) : Lab := fun b => if b < w.heap.size then .im else .no
theorem belowL_im {w : World} {b : Nat} (h : b < w.heap.size) : belowL w b = .im := by unfold belowL; rw [if_pos h]
/-- What is read of type 't' is one of these trees. -/
def Rd (P : Program) (t : TypeId) (m : Nat) {α : Type} (E : α → List IV) (ok : α → Prop) : Prop :=
  ∀ (H : Type) (enc : TypeId × Value → H) (w : World) (sp : Nat → Bool) (fuel : Nat) (cs : List Value) (x : DataW H × List MemPlace), fuel ≤ m →
    DataW.trod enc P w 0 sp true fuel t cs = some x → (∀ n ∈ x.1.weights P t, n ≤ reachBytes) → ∃ a, ok a ∧ All2 (RI w (belowL w)) (E a) cs

theorem Rd.map {P : Program} {t : TypeId} {m : Nat} {α β : Type} {E : α → List IV} {ok : α → Prop} (h : Rd P t m E ok) (f : α → β) {E' : β → List IV} {ok' : β → Prop} (hE : ∀ a, ok a → E' (f a) = E a) (hok : ∀ a, ok a → ok' (f a)) : Rd P t m E' ok' := by
  intro H enc w sp fuel cs x hf hx hw
  obtain ⟨a, h1, h2⟩ := h H enc w sp fuel cs x hf hx hw
  exact ⟨f a, hok a h1, by rw [hE a h1]; exact h2⟩

theorem Rd.zero {P : Program} {t : TypeId} {α : Type} {E : α → List IV} {ok : α → Prop} : Rd P t 0 E ok := by
  intro H enc w sp fuel cs x hf hx hw
  obtain rfl : fuel = 0 := by omega
  simp [DataW.trod] at hx

theorem All2.sing {R : IV → Value → Prop} {x : IV} {v : Value} (h : R x v) : All2 R [x] [v] :=
  ⟨rfl, fun j a b ha hb => by
    cases j with
    | zero => simp at ha hb; subst ha; subst hb; exact h
    | succ j => simp at ha⟩

theorem rd_int {P : Program} {t : TypeId} {k : IntKind} (ht : P.underlying t = some (.int k)) (m : Nat) : Rd P t m (fun n : Int => [.sc (.int k n)]) (fun n => k.min ≤ n ∧ n ≤ k.max) := by
  intro H enc w sp fuel cs x hf hx hw
  obtain ⟨n, rfl, rfl, h⟩ := DataW.trod_int ht hx
  simp only [Lit.wf, Bool.and_eq_true, decide_eq_true_eq] at h
  exact ⟨n, h, .sing (.sc _ rfl)⟩
theorem rd_i64 {P : Program} {t : TypeId} (ht : P.underlying t = some (.int .i64)) (m : Nat) : Rd P t m (fun n : Int => [.sc (.int .i64 n)]) (fun n => -9223372036854775808 ≤ n ∧ n ≤ 9223372036854775807) :=
  (rd_int ht m).map id (fun _ _ => rfl) fun a h => by simpa [IntKind.min, IntKind.max, IntKind.signed, IntKind.bits] using h
theorem rd_bool {P : Program} {t : TypeId} (ht : P.underlying t = some .bool) (m : Nat) : Rd P t m (fun b : Bool => [.sc (.bool b)]) (fun _ => True) := by
  intro H enc w sp fuel cs x hf hx hw
  obtain ⟨n, rfl, rfl⟩ := DataW.trod_bool ht hx
  exact ⟨n, trivial, .sing (.sc _ rfl)⟩
theorem rd_string {P : Program} {t : TypeId} (ht : P.underlying t = some .string) (m : Nat) : Rd P t m (fun s : ByteArray => [.sc (.string s)]) (fun s => s.size ≤ reachBytes) := by
  intro H enc w sp fuel cs x hf hx hw
  obtain ⟨s, rfl, rfl, h⟩ := DataW.trod_string ht hx
  refine ⟨s, ?_, .sing (.sc _ rfl)⟩
  exact hw s.size (by simp [DataW.weights])

/-- The cells of a row, an element after the other. -/
theorem flat_at {α : Type} {E : α → List IV} {z : Nat} : ∀ {xs : List α}, (∀ a ∈ xs, (E a).length = z) → (xs.flatMap E).length = xs.length * z ∧ ∀ (j : Nat) (x : IV), (xs.flatMap E)[j]? = some x → ∃ i k a, xs[i]? = some a ∧ (E a)[k]? = some x ∧ k < z ∧ j = i * z + k := by
  intro xs
  induction xs with
  | nil => intro _; exact ⟨by simp, by simp⟩
  | cons a r ih =>
    intro h
    have ha := h a (by simp)
    obtain ⟨h1, h2⟩ := ih fun b hb => h b (by simp [hb])
    refine ⟨by simp [h1, ha, Nat.succ_mul, Nat.add_comm], fun j x hj => ?_⟩
    rw [List.flatMap_cons] at hj
    by_cases hz : j < z
    · rw [List.getElem?_append_left (by omega)] at hj
      exact ⟨0, j, a, rfl, hj, hz, by omega⟩
    · rw [List.getElem?_append_right (by omega)] at hj
      obtain ⟨i, k, b, h3, h4, h5, h6⟩ := h2 _ _ hj
      exact ⟨i + 1, k, b, by simpa using h3, h4, h5, by rw [Nat.succ_mul]; omega⟩

theorem exists_list {α : Type} {n : Nat} {p : Nat → α → Prop} (h : ∀ i, i < n → ∃ a, p i a) : ∃ xs : List α, xs.length = n ∧ ∀ i a, xs[i]? = some a → p i a := by
  induction n with
  | zero => exact ⟨[], rfl, by simp⟩
  | succ n ih =>
    obtain ⟨xs, h1, h2⟩ := ih fun i hi => h i (by omega)
    obtain ⟨a, ha⟩ := h n (by omega)
    refine ⟨xs ++ [a], by simp [h1], fun i b hb => ?_⟩
    by_cases hi : i < n
    · rw [List.getElem?_append_left (by omega)] at hb; exact h2 i b hb
    · rw [List.getElem?_append_right (by omega)] at hb
      have : i - xs.length = 0 := by
        have := (List.getElem?_eq_some_iff.1 hb).1
        simp at this; omega
      rw [this] at hb
      simp at hb
      subst hb
      rwa [show i = n by omega]

theorem weightsAll_mem {H : Type} {P : Program} {e : TypeId} {n : Nat} : ∀ {ds : List (DataW H)} {d : DataW H}, d ∈ ds → n ∈ d.weights P e → n ∈ DataW.weightsAll P e ds := by
  intro ds
  induction ds with
  | nil => intro d h; cases h
  | cons a r ih =>
    intro d h hn
    simp only [DataW.weightsAll, List.mem_append]
    rcases List.mem_cons.1 h with rfl | h
    · exact .inl hn
    · exact .inr (ih h hn)

theorem rd_slice {P : Program} {t e : TypeId} {m : Nat} {α : Type} {E : α → List IV} {ok : α → Prop} {z : Nat} (ht : P.underlying t = some (.slice e)) (hz : P.cellsOf e = z) {y : Nat} (hy : P.bytesOf e = y) (h : Rd P e m E ok) :
    Rd P t (m + 1) (fun xs : List α => [.sl xs.length (xs.flatMap E)]) (fun xs => (∀ a ∈ xs, ok a) ∧ (∀ a ∈ xs, (E a).length = z) ∧ xs.length ≤ maxLen ∧ xs.length * y ≤ reachBytes) := by
  subst hz; subst hy
  intro H enc w sp fuel cs x hf hx hw
  rcases DataW.trod_slice ht hx with ⟨rfl, _⟩ | ⟨a, len, cap, elems, rest, n, rfl, rfl, rfl, _, hl, hm, hlen, hel, _, _⟩
  · exact ⟨[], ⟨by simp, by simp, by simp [maxLen], by simp⟩, .sing .slnil⟩
  · simp only [DataW.weights, ht] at hw
    have each : ∀ i, i < len → ∃ b, ok b ∧ ∃ vs : List Value, vs.length = P.cellsOf e ∧ (∀ k, k < P.cellsOf e → w.cell? (a.add (i * P.cellsOf e + k)) = vs[k]?) ∧ All2 (RI w (belowL w)) (E b) vs := by
      intro i hi
      have h1 := hel i hi
      obtain ⟨x, hx'⟩ : ∃ x, elems[i]? = some x := ⟨elems[i], by simp [hlen, hi]⟩
      rw [hx', Option.bind_eq_some_iff] at h1
      obtain ⟨vs, h2, h3⟩ := h1
      obtain ⟨_, h4, h5⟩ := World.cells?_some h2
      obtain ⟨b, h6, h7⟩ := h H enc w sp n vs x (by omega) h3 fun k hk => hw k (by
        refine List.mem_cons_of_mem _ (List.mem_append_left _ (weightsAll_mem (List.mem_map.2 ⟨x, List.mem_of_getElem? hx', rfl⟩) hk)))
      exact ⟨b, h6, vs, h4, fun k hk => by rw [← h5 k hk, addr_add_add], h7⟩
    obtain ⟨xs, hxl, hxs⟩ := exists_list each
    have hlens : ∀ b ∈ xs, (E b).length = P.cellsOf e := by
      intro b hb
      obtain ⟨i, hi⟩ := List.getElem?_of_mem hb
      obtain ⟨_, vs, h1, _, h2⟩ := hxs i b hi
      rw [h2.1, h1]
    obtain ⟨hf1, hf2⟩ := flat_at hlens
    have hall : ∀ j y, (xs.flatMap E)[j]? = some y → ∃ u, w.cell? (a.add j) = some u ∧ RI w (belowL w) y u := by
      intro j y hj
      obtain ⟨i, k, b, h1, h2, h3, rfl⟩ := hf2 j y hj
      obtain ⟨_, vs, h4, h5, h6⟩ := hxs i b h1
      obtain ⟨u, hu, hr⟩ := h6.get h2
      exact ⟨u, by rw [h5 k h3, hu], hr⟩
    have key : RI w (belowL w) (.sl xs.length (xs.flatMap E)) (.slice (some a) len cap) := by
      rw [hxl]
      refine .sl _ _ _ a (fun j => (w.cell? (a.add j)).getD undef) (fun hne => ?_) (by omega) hm (fun j hj => ?_) fun j y hj => ?_
      · obtain ⟨y, hy⟩ : ∃ y, (xs.flatMap E)[0]? = some y := by
          cases hc : xs.flatMap E with
          | nil => exact absurd hc hne
          | cons y r => exact ⟨y, rfl⟩
        obtain ⟨u, hu, _⟩ := hall 0 y hy
        have := World.block_lt_of_cell? _ _ hu
        rw [addr_add_block] at this
        exact belowL_im this
      · obtain ⟨u, hu, _⟩ := hall j _ (List.getElem?_eq_getElem hj)
        simp [hu]
      · obtain ⟨u, hu, hr⟩ := hall j y hj
        simpa [hu] using hr
    refine ⟨xs, ⟨fun b hb => ?_, hlens, by omega, ?_⟩, .sing key⟩
    · obtain ⟨i, hi⟩ := List.getElem?_of_mem hb
      exact (hxs i b hi).1
    · have := hw _ (List.mem_cons_self)
      refine Nat.le_trans (Nat.mul_le_mul_right _ ?_) this
      simp [hxl, hlen]

/-- The fields' types and places. -/
def strOf (P : Program) (t : TypeId) : Option (List (TypeId × Nat)) := match P.underlying t with | some (.struct fs) => some (fs.toList.map fun f => (f.type, f.offset)) | _ => none
/-- The fields from place 'off' on. -/
def RdL (P : Program) (T off : Nat) (fs : List (TypeId × Nat)) (m : Nat) {α : Type} (E : α → List IV) (ok : α → Prop) : Prop :=
  ∀ (H : Type) (enc : TypeId × Value → H) (w : World) (sp : Nat → Bool) (n : Nat) (cs : List Value) (xs : List (DataW H × List MemPlace)), n ≤ m → cs.length = T → xs.length = fs.length →
    (∀ (i : Nat) (f : TypeId × Nat), fs[i]? = some f → DataW.trod enc P w 0 sp true n f.1 ((cs.drop f.2).take (P.cellsOf f.1)) = xs[i]?) →
    (∀ k ∈ DataW.weightsEach P (fs.map (·.1)) (xs.map (·.1)), k ≤ reachBytes) → ∃ a, ok a ∧ All2 (RI w (belowL w)) (E a) (cs.drop off)

theorem rdL_nil {P : Program} {T m : Nat} : RdL P T T [] m (fun _ : Unit => []) (fun _ => True) := by
  intro H enc w sp n cs xs hn hc hl ht hw
  exact ⟨(), trivial, by simp [hc], by simp⟩
theorem All2.appendI {R : IV → Value → Prop} {xs xs' : List IV} {ys ys' : List Value} (h : All2 R xs ys) (h' : All2 R xs' ys') : All2 R (xs ++ xs') (ys ++ ys') := All2.append h h'
theorem rdL_cons {P : Program} {T off off' m : Nat} {ty : TypeId} {fs : List (TypeId × Nat)} {α β : Type} {E : α → List IV} {ok : α → Prop} {E' : β → List IV} {ok' : β → Prop} (ho' : off + P.cellsOf ty = off')
    (h : Rd P ty m E ok) (h' : RdL P T off' fs m E' ok') : RdL P T off ((ty, off) :: fs) m (fun p : α × β => E p.1 ++ E' p.2) (fun p => ok p.1 ∧ ok' p.2) := by
  subst ho'
  intro H enc w sp n cs xs hn hc hl ht hw
  cases xs with
  | nil => simp at hl
  | cons x xs =>
    simp only [List.map_cons, DataW.weightsEach, List.mem_append] at hw
    obtain ⟨a, h1, h2⟩ := h H enc w sp n _ x hn (by simpa using ht 0 (ty, off) rfl) fun k hk => hw k (.inl hk)
    obtain ⟨b, h3, h4⟩ := h' H enc w sp n cs xs hn hc (by simpa using hl) (fun i g hg => by simpa using ht (i + 1) g (by simpa using hg)) fun k hk => hw k (.inr hk)
    refine ⟨(a, b), ⟨h1, h3⟩, ?_⟩
    have : cs.drop off = (cs.drop off).take (P.cellsOf ty) ++ cs.drop (off + P.cellsOf ty) := by
      rw [← List.drop_drop, List.take_append_drop]
    rw [this]
    exact h2.appendI h4
theorem rd_struct {P : Program} {t : TypeId} {L : List (TypeId × Nat)} {T m : Nat} {α : Type} {E : α → List IV} {ok : α → Prop} (ht : strOf P t = some L) (hT : P.cellsOf t = T) (h : RdL P T 0 L m E ok) : Rd P t (m + 1) E ok := by
  unfold strOf at ht
  split at ht
  · rename_i fs hfs
    obtain rfl := Option.some.inj ht
    intro H enc w sp fuel cs x hf hx hw
    obtain ⟨xs, n, rfl, rfl, h1, h2, h3⟩ := DataW.trod_struct hfs hx
    simp only [DataW.weights, hfs] at hw
    have := h H enc w sp n cs xs (by omega) (by omega) (by simpa using h2) (fun i f hi => by
      rw [List.getElem?_map] at hi
      obtain ⟨g, hg, rfl⟩ := Option.map_eq_some_iff.1 hi
      exact h3 i g (by simpa using hg)) (by rw [List.map_map]; exact hw)
    simpa using this
  · cases ht

/-- The whole argument. -/
theorem Rd.top {P : Program} {t : TypeId} {α : Type} {E : α → List IV} {ok : α → Prop} (h : ∀ m, Rd P t m E ok) {H : Type} {enc : TypeId × Value → H} {w : World} {sp : Nat → Bool} {v : Value} {d : DataW H} {p : List MemPlace}
    (hd : DataW.Trod enc P w 0 sp true t v d p) (hw : ∀ n ∈ d.weights P t, n ≤ reachBytes) : ∃ a, ok a ∧ All2 (RI w (belowL w)) (E a) v.cells.toList := by
  obtain ⟨fuel, hf⟩ := hd
  exact h fuel H enc w sp fuel _ _ (Nat.le_refl _) hf hw
theorem Rd.top1 {P : Program} {t : TypeId} {α : Type} {E : α → IV} {ok : α → Prop} (h : ∀ m, Rd P t m (fun a => [E a]) ok) (hs : ∀ fs, P.underlying t ≠ some (.struct fs)) (ha : ∀ n e, P.underlying t ≠ some (.array n e)) {H : Type} {enc : TypeId × Value → H} {w : World} {sp : Nat → Bool} {v : Value} {d : DataW H} {p : List MemPlace}
    {r : Reach} {base : Nat} (hval : Value.okWide P w r base t v)
    (hd : DataW.Trod enc P w 0 sp true t v d p) (hw : ∀ n ∈ d.weights P t, n ≤ reachBytes) : ∃ a, ok a ∧ RP w (belowL w) (.c (.im (E a))) v := by
  obtain ⟨a, h1, h2⟩ := Rd.top h hd hw
  have hv : v.cells = #[v] := by
    cases v <;> first | rfl | skip
    exfalso
    unfold Value.okWide at hval
    split at hval
    · rename_i h; exact hs _ h
    · rename_i h; exact ha _ _ h
    · unfold Cell.okWide at hval
      split at hval <;> try (rename_i h; cases h; done)
      unfold Cell.ok at hval
      split at hval <;> simp_all
  rw [hv] at h2
  refine ⟨a, h1, .im _ _ (h2.2 0 _ _ rfl rfl)⟩
theorem Rd.topS {P : Program} {t : TypeId} {α : Type} {E : α → List IV} {ok : α → Prop} (h : ∀ m, Rd P t m E ok) {L : List (TypeId × Nat)} (hs : strOf P t = some L) {H : Type} {enc : TypeId × Value → H} {w : World} {sp : Nat → Bool} {v : Value} {d : DataW H} {p : List MemPlace}
    {r : Reach} {base : Nat} (hval : Value.okWide P w r base t v)
    (hd : DataW.Trod enc P w 0 sp true t v d p) (hw : ∀ n ∈ d.weights P t, n ≤ reachBytes) : ∃ a, ok a ∧ RP w (belowL w) (.ag ((E a).map .im)) v := by
  obtain ⟨a, h1, h2⟩ := Rd.top h hd hw
  obtain ⟨fs, hfs⟩ : ∃ fs, P.underlying t = some (.struct fs) := by
    unfold strOf at hs
    split at hs
    · exact ⟨_, by assumption⟩
    · cases hs
  obtain ⟨cs, rfl, _⟩ := WideShapes.okWide_struct hfs hval
  simp only [Value.cells] at h2
  refine ⟨a, h1, cs.toList, by simp, ⟨by simpa using h2.1, fun j x y hx hy => ?_⟩, fun u hu => ?_⟩
  · rw [List.getElem?_map] at hx
    obtain ⟨z, hz, rfl⟩ := Option.map_eq_some_iff.1 hx
    exact .im _ _ (h2.2 j z y hz hy)
  · obtain ⟨j, hj⟩ := List.getElem?_of_mem hu
    have hlt := (List.getElem?_eq_some_iff.1 hj).1
    have : j < (E a).length := by rw [h2.1]; exact hlt
    exact (h2.2 j _ u (List.getElem?_eq_getElem this) hj).one

/-- The arguments afterwards. -/
theorem trodAll_stay {H : Type} {enc : TypeId × Value → H} {P : Program} (hl : laidOutB P = true) {W W' : World} (hb : Below W.heap.size W W') : ∀ {ts : List TypeId} {vs : List Value} {ds : List (DataW H)} {ps : List MemPlace},
    (∀ t ∈ ts, P.readableRec t = true ∧ t < P.types.size) → DataW.TrodAll enc P W 0 (fun _ => true) true ts vs ds ps → DataW.TrodAll enc P W' 0 (fun b => decide (b < W.heap.size)) true ts vs ds ps := by
  intro ts
  induction ts with
  | nil =>
    intro vs ds ps _ h
    obtain ⟨rfl, rfl, rfl⟩ := ChangeShapes.trodAll_nil h
    rfl
  | cons t ts ih =>
    intro vs ds ps ht h
    cases vs with
    | nil => exact h.elim
    | cons v vs =>
      cases ds with
      | nil => exact h.elim
      | cons d ds =>
        obtain ⟨p, q, h1, h2, rfl⟩ := h
        obtain ⟨h3, h4⟩ := ht t (by simp)
        refine ⟨p, q, Below.trod hl h3 h4 h1 hb ?_, ih (fun u hu => ht u (by simp [hu])) h2, rfl⟩
        obtain ⟨fuel, hf⟩ := h1
        exact DataW.trod_lt fuel t _ _ hf

theorem All2.pair {α β : Type} {R : α → β → Prop} {x : α} {xs : List α} {y : β} {ys : List β} (h : R x y) (h' : All2 R xs ys) : All2 R (x :: xs) (y :: ys) :=
  ⟨by simp [h'.1], fun j a b ha hb => by
    cases j with
    | zero => simp at ha hb; subst ha; subst hb; exact h
    | succ j => exact h'.2 j a b (by simpa using ha) (by simpa using hb)⟩
theorem All2.nil {α β : Type} {R : α → β → Prop} : All2 R ([] : List α) ([] : List β) := ⟨rfl, fun j a b ha => by simp at ha⟩
theorem RP_sc {w : World} {ω : Lab} {κ : Nat → Value} {σ : Sto} {u v : Value} (h : RT w ω κ σ (.c (.im (.sc u))) v) : v = u := by
  cases h with
  | im _ _ h => cases h; rfl
/-- A law's function, called. -/
theorem law_call {P : Program} {g : FuncId} {args : List TV} {u : Value} (h : FnS P g [] args [] (.c (.im (.sc u)))) {W : World} {vs : List Value} (hv : All2 (RP W (belowL W)) args vs) :
    Calls P g vs.toArray W fun e W' => e = .returned u ∧ Below W.heap.size W W' := by
  have hb : ∀ b k, belowL W b ≠ .ob k := fun b k => by unfold belowL; split <;> simp
  refine (h W (belowL W) (fun _ => undef) vs ⟨fun k o h => (by rw [get_nil] at h; cases h), fun b hb => ?_⟩ (fun b k h => absurd h (hb b k)) hv).mono fun e W' ⟨v, ω', κ', he, ht, _, hr, _⟩ => ?_
  · unfold belowL at hb; split at hb
    · assumption
    · exact absurd rfl hb
  · obtain rfl := RP_sc hr
    exact ⟨he, ht.os, ht.tape, ht.output, ht.size, fun k hk => ht.block k hk (hb k)⟩
/-- The sizes of the arguments, one by one. -/
theorem weights_cons {H : Type} {P : Program} {t : TypeId} {ts : List TypeId} {d : DataW H} {ds : List (DataW H)} (h : (DataW.weightsEach P (t :: ts) (d :: ds)).all (· ≤ reachBytes) = true) : (∀ n ∈ d.weights P t, n ≤ reachBytes) ∧ (DataW.weightsEach P ts ds).all (· ≤ reachBytes) = true := by
  simp only [DataW.weightsEach, List.all_append, Bool.and_eq_true] at h
  exact ⟨fun n hn => by simpa using List.all_eq_true.1 h.1 n hn, h.2⟩
end Go.VC
/- Ways of writing lists as trees, and the laws' size count: no statement of a program. -/
set_option linter.unusedSimpArgs false
set_option linter.unusedVariables false
namespace Go.VC
open Go Go.RowKit

abbrev bT (b : Bool) : TV := .c (.im (.sc (.bool b)))
abbrev iT (i : Int) : TV := .c (.im (.sc (.int .i64 i)))
abbrev sT (s : ByteArray) : TV := .c (.im (.sc (.string s)))
/-- A slice. -/
def slI {α : Type} (E : α → List IV) (xs : List α) : IV := .sl xs.length (xs.flatMap E)
abbrev slT {α : Type} (E : α → List IV) (xs : List α) : TV := .c (.im (slI E xs))
/-- A struct. -/
def agT (cs : List IV) : TV := .ag (cs.map .im)
def eS (s : ByteArray) : List IV := [.sc (.string s)]
def eI (n : Int) : List IV := [.sc (.int .i64 n)]

theorem flat_drop {α : Type} {E : α → List IV} {z : Nat} (hE : ∀ a, (E a).length = z) : ∀ {xs : List α} {i : Nat} {a : α}, xs[i]? = some a → (xs.flatMap E).drop (i * z) = E a ++ (xs.drop (i + 1)).flatMap E := by
  intro xs
  induction xs with
  | nil => intro i a h; cases h
  | cons b r ih =>
    intro i a h
    cases i with
    | zero => simp at h; subst h; simp
    | succ i =>
      simp only [List.getElem?_cons_succ] at h
      rw [List.flatMap_cons, Nat.succ_mul, Nat.add_comm, ← List.drop_drop, ← hE b, List.drop_left, hE b, ih h]
      simp
theorem take_succ_iff {α : Type} {xs ys : List α} {i : Nat} {x y : α} (ht : xs.take i = ys.take i) (hx : xs[i]? = some x) (hy : ys[i]? = some y) (h : x = y) : xs.take (i + 1) = ys.take (i + 1) := by
  rw [List.take_add_one, List.take_add_one, ht, hx, hy, h]
theorem drop_get {α : Type} {xs : List α} {i : Nat} {x : α} (hx : xs[i]? = some x) : xs.drop i = x :: xs.drop (i + 1) := by
  obtain ⟨h, rfl⟩ := List.getElem?_eq_some_iff.1 hx
  exact List.drop_eq_getElem_cons h
theorem get_lt {α : Type} {xs : List α} {i : Nat} (h : i < xs.length) : ∃ x, xs[i]? = some x ∧ x ∈ xs := ⟨xs[i], by simp [h], List.getElem_mem h⟩

/-- The count of what is left, over a list. -/
def szL {α : Type} (f : α → Int → Int) : List α → Int → Int
  | [], l => l
  | x :: r, l => if f x l < 0 then -1 else szL f r (f x l)
def szS {α : Type} (f : α → Int → Int) (xs : List α) (l : Int) : Int := if l - xs.length < 0 then -1 else szL f xs (l - xs.length)
def szStr (s : ByteArray) (l : Int) : Int := if l - s.size < 0 then -1 else l - s.size
theorem szL_neg {α : Type} {f : α → Int → Int} {x : α} {r : List α} {l : Int} (h : f x l < 0) : szL f (x :: r) l = -1 := by rw [szL, if_pos h]
theorem szL_pos {α : Type} {f : α → Int → Int} {x : α} {r : List α} {l : Int} (h : 0 ≤ f x l) : szL f (x :: r) l = szL f r (f x l) := by rw [szL, if_neg (by omega)]
theorem szStr_neg {s : ByteArray} {l : Int} (h : l - s.size < 0) : szStr s l = -1 := if_pos h
theorem szStr_pos {s : ByteArray} {l : Int} (h : 0 ≤ l - s.size) : szStr s l = l - s.size := if_neg (by omega)
/-- It counts down. -/
def Dn {α : Type} (f : α → Int → Int) : Prop := ∀ a l, 0 ≤ l → f a l ≤ l ∧ -1 ≤ f a l
theorem dn_str : Dn szStr := by intro a l h; unfold szStr; split <;> omega
theorem dn_L {α : Type} {f : α → Int → Int} (h : Dn f) : Dn (szL f) := by
  intro xs
  induction xs with
  | nil => intro l hl; simp [szL]; omega
  | cons x r ih =>
    intro l hl
    unfold szL
    split
    · omega
    · have h1 := h x l hl
      have := ih (f x l) (by omega)
      omega
theorem dn_S {α : Type} {f : α → Int → Int} (h : Dn f) : Dn (szS f) := by
  intro xs l hl
  unfold szS
  split
  · omega
  · have := dn_L h xs (l - xs.length) (by omega)
    omega
theorem szS_len {α : Type} {f : α → Int → Int} (h : Dn f) {xs : List α} {l : Int} (hs : 0 ≤ szS f xs l) : (xs.length : Int) ≤ l := by
  unfold szS at hs
  split at hs <;> omega
theorem szL_mem {α : Type} {f : α → Int → Int} (h : Dn f) : ∀ {xs : List α} {l : Int}, 0 ≤ l → 0 ≤ szL f xs l → ∀ a ∈ xs, ∃ l', 0 ≤ l' ∧ l' ≤ l ∧ 0 ≤ f a l' := by
  intro xs
  induction xs with
  | nil => intro l _ _ a ha; cases ha
  | cons x r ih =>
    intro l hl hs a ha
    unfold szL at hs
    split at hs
    · omega
    · rename_i hx
      have h1 := h x l hl
      rcases List.mem_cons.1 ha with rfl | ha
      · exact ⟨l, hl, Int.le_refl _, by omega⟩
      · obtain ⟨l', h2, h3, h4⟩ := ih (by omega) hs a ha
        exact ⟨l', h2, by omega, h4⟩
theorem szS_mem {α : Type} {f : α → Int → Int} (h : Dn f) {xs : List α} {l : Int} (hl : 0 ≤ l) (hs : 0 ≤ szS f xs l) : ∀ a ∈ xs, ∃ l', 0 ≤ l' ∧ l' ≤ l ∧ 0 ≤ f a l' := by
  intro a ha
  unfold szS at hs
  split at hs
  · omega
  · obtain ⟨l', h1, h2, h3⟩ := szL_mem h (by omega) hs a ha
    exact ⟨l', h1, by omega, h3⟩
theorem szStr_le {s : ByteArray} {l : Int} (h : 0 ≤ szStr s l) : (s.size : Int) ≤ l := by
  unfold szStr at h
  split at h <;> omega
theorem wrap_succ {i n : Nat} (h : i < n) (hn : n ≤ 2 ^ 60) : IntKind.i64.wrap ((i : Int) + 1) = ((i + 1 : Nat) : Int) := by
  rw [wrap_i64 (by omega) (by omega)]; simp
theorem dn_neg {α : Type} {f : α → Int → Int} (h : Dn f) {a : α} {l : Int} (hl : 0 ≤ l) (hs : f a l < 0) : f a l = -1 := by
  have := h a l hl
  omega
theorem setL_mid {α : Type} {ys : List α} : ∀ {A B C : List α}, ys.length = B.length → setL (A ++ (B ++ C)) A.length ys = A ++ (ys ++ C) := by
  induction ys with
  | nil =>
    intro A B C h
    obtain rfl : B = [] := List.eq_nil_of_length_eq_zero h.symm
    rfl
  | cons y r ih =>
    intro A B C h
    cases B with
    | nil => cases h
    | cons b B =>
      have h1 : (A ++ (b :: B ++ C)).set A.length y = (A ++ [y]) ++ (B ++ C) := by
        rw [List.set_append_right _ _ (Nat.le_refl _), Nat.sub_self]; simp
      rw [setL, h1]
      have := ih (A := A ++ [y]) (B := B) (C := C) (by simpa using h)
      rw [List.length_append, List.length_singleton] at this
      rw [this]; simp
/-- As setL, from the front. -/
def stL {α : Type} : List α → Nat → List α → List α
  | cs, _, [] => cs
  | [], _, _ :: _ => []
  | _ :: cs, 0, y :: r => y :: stL cs 0 r
  | c :: cs, n + 1, y :: r => c :: stL cs n (y :: r)
theorem stL_nil {α : Type} (cs : List α) (n : Nat) : stL cs n [] = cs := by cases cs <;> rfl
theorem setL_cons {α : Type} {c : α} : ∀ {ys cs : List α} {n : Nat}, setL (c :: cs) (n + 1) ys = c :: setL cs n ys
  | [], cs, n => rfl
  | y :: r, cs, n => by rw [setL, setL, List.set_cons_succ, setL_cons]
theorem setL_enil {α : Type} : ∀ {ys : List α} {n : Nat}, setL ([] : List α) n ys = []
  | [], n => rfl
  | y :: r, n => by rw [setL, List.set_nil, setL_enil]
theorem setL_st {α : Type} : ∀ {cs : List α} {n : Nat} {ys : List α}, setL cs n ys = stL cs n ys
  | cs, n, [] => by rw [stL_nil]; rfl
  | [], n, y :: r => by rw [setL_enil]; rfl
  | c :: cs, 0, y :: r => by rw [setL, List.set_cons_zero, setL_cons, setL_st (cs := cs)]; rfl
  | c :: cs, n + 1, y :: r => by rw [setL_cons, setL_st (cs := cs)]; rfl
theorem stL_one {α : Type} {cs : List α} {n : Nat} {v : α} : stL cs n [v] = cs.set n v := by rw [← setL_st]; rfl
theorem stL_c0 {α : Type} {c y y' : α} {cs r : List α} : stL (c :: cs) 0 (y :: y' :: r) = y :: stL cs 0 (y' :: r) := rfl
theorem stL_cs {α : Type} {c y y' : α} {cs r : List α} {n : Nat} : stL (c :: cs) (n + 1) (y :: y' :: r) = c :: stL cs n (y :: y' :: r) := rfl
theorem reps_len2 {α : Type} (l : List α) : ∀ n, (reps n l).length = n * l.length := by
  intro n
  induction n with
  | zero => simp [reps]
  | succ n ih => rw [reps, List.length_append, ih, Nat.succ_mul, Nat.add_comm]
theorem flat_len {α : Type} {E : α → List IV} {z : Nat} (hE : ∀ a, (E a).length = z) (xs : List α) : (xs.flatMap E).length = xs.length * z := (flat_at (fun a _ => hE a)).1
/-- A row that is filled from the left. -/
def filled {α : Type} (E : α → List IV) (zs : List IV) (xs : List α) (i : Nat) : List IV := (xs.take i).flatMap E ++ reps (xs.length - i) zs
theorem filled_zero {α : Type} {E : α → List IV} {zs : List IV} {xs : List α} : filled E zs xs 0 = reps xs.length zs := by simp [filled]
theorem filled_all {α : Type} {E : α → List IV} {zs : List IV} {xs : List α} {i : Nat} (h : xs.length ≤ i) : filled E zs xs i = xs.flatMap E := by
  rw [filled, List.take_of_length_le h, Nat.sub_eq_zero_of_le h]; simp [reps]
theorem filled_len {α : Type} {E : α → List IV} {zs : List IV} {z : Nat} (hE : ∀ a, (E a).length = z) (hz : zs.length = z) {xs : List α} {i : Nat} (h : i ≤ xs.length) : (filled E zs xs i).length = xs.length * z := by
  rw [filled, List.length_append, flat_len hE, reps_len2, hz, ← Nat.add_mul]
  simp; rw [Nat.min_eq_left h]; congr 1; omega
theorem filled_step {α : Type} {E : α → List IV} {zs : List IV} {z : Nat} (hE : ∀ a, (E a).length = z) (hz : zs.length = z) {xs : List α} {i : Nat} {x : α} (hx : xs[i]? = some x) : setL (filled E zs xs i) (i * z) (E x) = filled E zs xs (i + 1) := by
  have hi := (List.getElem?_eq_some_iff.1 hx).1
  have h1 : xs.length - i = xs.length - (i + 1) + 1 := by omega
  have h2 : ((xs.take i).flatMap E).length = i * z := by rw [flat_len hE]; simp; rw [Nat.min_eq_left (by omega)]
  rw [filled, h1, reps, ← h2, setL_mid (by rw [hE, hz]), filled, List.take_add_one, hx]
  simp
end Go.VC
/- The order of strings and of lists of strings, and plain facts about lists: no statement of a program. -/
set_option linter.unusedSimpArgs false
set_option linter.unusedVariables false
namespace Go.VC
open Go Go.RowKit

theorem bl_irrefl : ∀ (a : List UInt8), Op.bytesLess a a = false := by
  intro a
  induction a with
  | nil => rfl
  | cons x a ih => simp [Op.bytesLess, ih]
theorem bl_asymm : ∀ (a b : List UInt8), Op.bytesLess a b = true → Op.bytesLess b a = false := by
  intro a
  induction a with
  | nil => intro b h; cases b <;> simp [Op.bytesLess] at h ⊢
  | cons x a ih =>
    intro b h
    cases b with
    | nil => simp [Op.bytesLess] at h
    | cons y b =>
      simp only [Op.bytesLess, Bool.or_eq_true, decide_eq_true_eq, Bool.and_eq_true, beq_iff_eq] at h
      simp only [Op.bytesLess, Bool.or_eq_false_iff, decide_eq_false_iff_not, Bool.and_eq_false_imp, beq_iff_eq]
      rcases h with h | ⟨rfl, h⟩
      · exact ⟨UInt8.lt_asymm h, fun he => absurd (he ▸ h) (UInt8.lt_irrefl _)⟩
      · exact ⟨UInt8.lt_irrefl _, fun _ => ih b h⟩
theorem bl_tri : ∀ (a b : List UInt8), Op.bytesLess a b = false → a ≠ b → Op.bytesLess b a = true := by
  intro a
  induction a with
  | nil => intro b h hn; cases b with | nil => exact absurd rfl hn | cons y b => simp [Op.bytesLess] at h
  | cons x a ih =>
    intro b h hn
    cases b with
    | nil => rfl
    | cons y b =>
      simp only [Op.bytesLess, Bool.or_eq_false_iff, decide_eq_false_iff_not, Bool.and_eq_false_imp, beq_iff_eq] at h
      simp only [Op.bytesLess, Bool.or_eq_true, decide_eq_true_eq, Bool.and_eq_true, beq_iff_eq]
      by_cases hxy : x = y
      · subst hxy
        exact .inr ⟨rfl, ih b (h.2 rfl) fun e => hn (by rw [e])⟩
      · rcases UInt8.lt_or_lt_of_ne hxy with h' | h'
        · exact absurd h' h.1
        · exact .inl h'
theorem sLt_irrefl (a : ByteArray) : sLt a a = false := bl_irrefl _
theorem sLt_asymm {a b : ByteArray} (h : sLt a b = true) : sLt b a = false := bl_asymm _ _ h
theorem sLt_tri {a b : ByteArray} (h : sLt a b = false) (hn : a ≠ b) : sLt b a = true := bl_tri _ _ h fun e => hn (by cases a; cases b; simp only [ByteArray.mk.injEq]; exact Array.toList_inj.1 e)
/-- The order the other way round. -/
theorem sGt (a b : ByteArray) : (!(sLt a b || decide (a = b))) = sLt b a := by
  cases h : sLt a b with
  | true => rw [sLt_asymm h]; rfl
  | false =>
    by_cases e : a = b
    · subst e; simp [sLt_irrefl]
    · simp [e, sLt_tri h e]
/-- Comparing two strings. -/
def cmpS (a b : ByteArray) : Int := if sLt a b then -1 else if a = b then 0 else 1
theorem cmpS_eq {a b : ByteArray} : cmpS a b = 0 ↔ a = b := by
  unfold cmpS
  cases h : sLt a b with
  | true =>
    refine ⟨by simp, fun e => ?_⟩
    subst e; rw [sLt_irrefl] at h; cases h
  | false => simp
/-- Comparing two lists of strings. -/
def cmpL : List ByteArray → List ByteArray → Int
  | [], [] => 0
  | [], _ :: _ => -1
  | _ :: _, [] => 1
  | a :: x, b :: y => if a = b then cmpL x y else cmpS a b
theorem cmpL_drop {xs ys : List ByteArray} {i : Nat} {x y : ByteArray} (hx : xs[i]? = some x) (hy : ys[i]? = some y) : cmpL (xs.drop i) (ys.drop i) = if x = y then cmpL (xs.drop (i + 1)) (ys.drop (i + 1)) else cmpS x y := by
  rw [drop_get hx, drop_get hy, cmpL]
theorem wrap_pred {i n : Nat} (h0 : 0 < i) (h : i ≤ n) (hn : n ≤ 2 ^ 60) : IntKind.i64.wrap ((i : Int) - 1) = ((i - 1 : Nat) : Int) := by
  rw [wrap_i64 (by omega) (by omega)]; omega
theorem toNat_sub (i : Nat) : ((i : Int)).toNat = i := by simp
end Go.VC
/- Rules for the simplifier: no statement of a program. -/
set_option linter.unusedSimpArgs false
set_option linter.unusedVariables false
namespace Go.VC
open Go Go.RowKit
section
variable {P : Program} {σ : Sto}

theorem ixa_im {t n : Nat} {cs : List IV} {k : IntKind} {i : Int} (h : 0 ≤ i ∧ i < (n : Int)) : evIndexAddr P σ t (.c (.im (.sl n cs))) (.c (.im (.sc (.int k i)))) = (elOf P t).bind fun q => some (.c (.im (.pt (cs.drop (i.toNat * q.2))))) := by
  simp only [evIndexAddr, if_pos h]
theorem ixa_ik {t c n : Nat} {cs : List IV} {k : IntKind} {i : Int} (h : 0 ≤ i ∧ i < (n : Int)) : evIndexAddr P σ t (.c (.ik c n cs)) (.c (.im (.sc (.int k i)))) = (elOf P t).bind fun q => some (.c (.im (.pt (cs.drop (i.toNat * q.2))))) := by
  simp only [evIndexAddr, if_pos h]
theorem ixa_os {t j n : Nat} {k : IntKind} {i : Int} (h : 0 ≤ i ∧ i < (n : Int)) : evIndexAddr P σ t (.c (.os j n)) (.c (.im (.sc (.int k i)))) = (elOf P t).bind fun q => match (get σ j).bind Ob.len? with | some m => if m = n then some (.c (.rv j n (i.toNat * q.2))) else none | none => none := by
  simp only [evIndexAddr, if_pos h]
  congr 1
  funext q
  split <;> first | rfl | (split <;> first | rfl | simp_all)
theorem ix_str {t : Nat} {s : ByteArray} {k : IntKind} {i : Int} (h : 0 ≤ i ∧ i < (s.size : Int)) : evIndex P t (.c (.im (.sc (.string s)))) (.c (.im (.sc (.int k i)))) = match P.underlying t with | some .string => some (.c (.im (.sc (.int .u8 ((s.data.toList.getD i.toNat 0).toNat : Int))))) | _ => none := by
  simp only [evIndex, if_pos h]
  rfl

/-- How many cells an element takes. -/
class Wid {α : Type} (E : α → List IV) (z : outParam Nat) : Prop where
  wid : ∀ a, (E a).length = z
instance : Wid eS 1 := ⟨fun _ => rfl⟩
instance : Wid eI 1 := ⟨fun _ => rfl⟩
theorem flat_drop_at {α : Type} {E : α → List IV} {z : Nat} [w : Wid E z] {xs : List α} {i : Nat} (h : i < xs.length) : (xs.flatMap E).drop (i * z) = E xs[i] ++ (xs.drop (i + 1)).flatMap E := flat_drop w.wid (by simp [h])
/-- A pointer to an element. -/
theorem pt_at {α : Type} {E : α → List IV} {z : Nat} [Wid E z] {xs : List α} {i : Nat} (h : i < xs.length) : IV.pt ((xs.flatMap E).drop (i * z)) = .pt (E xs[i] ++ (xs.drop (i + 1)).flatMap E) := by rw [flat_drop_at h]
theorem pt_at1 {α : Type} {E : α → List IV} [Wid E 1] {xs : List α} {i : Nat} (h : i < xs.length) : IV.pt ((xs.flatMap E).drop i) = .pt (E xs[i] ++ (xs.drop (i + 1)).flatMap E) := by
  have := pt_at (E := E) h
  rwa [Nat.mul_one] at this
theorem flat_get {α : Type} {E : α → List IV} {z : Nat} [w : Wid E z] {xs : List α} {i c : Nat} (h : i < xs.length) (hc : c < z) : (xs.flatMap E)[i * z + c]? = (E xs[i])[c]? := by
  have := congrArg (·[c]?) (flat_drop_at (E := E) h)
  simp only [List.getElem?_drop] at this
  rw [this, List.getElem?_append_left (by rw [w.wid]; exact hc)]
theorem flat_get0 {α : Type} {E : α → List IV} {z : Nat} [w : Wid E z] {xs : List α} {i : Nat} (h : i < xs.length) (hc : 0 < z) : (xs.flatMap E)[i * z]? = (E xs[i])[0]? := flat_get (c := 0) h hc
theorem flat_get1 {α : Type} {E : α → List IV} [w : Wid E 1] {xs : List α} {i : Nat} (h : i < xs.length) : (xs.flatMap E)[i]? = (E xs[i])[0]? := by
  have := flat_get0 (E := E) h (by omega)
  rwa [Nat.mul_one] at this
theorem flat_len' {α : Type} {E : α → List IV} {z : Nat} [w : Wid E z] {xs : List α} : (xs.flatMap E).length = xs.length * z := flat_len w.wid xs
theorem wrap64 {x : Int} (h : -9223372036854775808 ≤ x ∧ x ≤ 9223372036854775807) : IntKind.i64.wrap x = x := wrap_i64 h.1 h.2
theorem toNat_pred (i : Nat) : ((i : Int) - 1).toNat = i - 1 := by omega
theorem toNat_succ (i : Nat) : ((i : Int) + 1).toNat = i + 1 := by omega
theorem cast_succ (i : Nat) : ((i + 1 : Nat) : Int) = (i : Int) + 1 := rfl
theorem allSc_eS (xs : List ByteArray) : allSc (xs.flatMap eS) = true := by
  induction xs with
  | nil => rfl
  | cons x r ih => simpa [eS, allSc] using ih
theorem allSc_eI (xs : List Int) : allSc (xs.flatMap eI) = true := by
  induction xs with
  | nil => rfl
  | cons x r ih => simpa [eI, allSc] using ih
theorem allSc_append (a b : List IV) : allSc (a ++ b) = (allSc a && allSc b) := by
  induction a with
  | nil => rfl
  | cons x r ih => cases x <;> simp [allSc, ih]
theorem flat_one {α : Type} {E : α → List IV} (x : α) : [x].flatMap E = E x := by simp
theorem take_at {α : Type} {xs : List α} {i : Nat} (h : i < xs.length) : xs.take (i + 1) = xs.take i ++ [xs[i]] := by rw [List.take_succ_eq_append_getElem h]
theorem drop_at {α : Type} {xs : List α} {i : Nat} (h : i < xs.length) : xs.drop i = xs[i] :: xs.drop (i + 1) := List.drop_eq_getElem_cons h
theorem take_eq_at {α : Type} {xs ys : List α} {i : Nat} (ht : xs.take i = ys.take i) (h : i < xs.length) (h' : i < ys.length) (he : xs[i] = ys[i]) : xs.take (i + 1) = ys.take (i + 1) := by rw [take_at h, take_at h', ht, he]
/-- How long a given row is. -/
class LenZ (zs : List IV) (z : Nat) : Prop where
  len : zs.length = z
instance : LenZ [] 0 := ⟨rfl⟩
instance {a : IV} {l : List IV} {n : Nat} [h : LenZ l n] : LenZ (a :: l) (n + 1) := ⟨congrArg (· + 1) h.len⟩
theorem filled_len' {α : Type} {E : α → List IV} {zs : List IV} {z : Nat} [w : Wid E z] [hz : LenZ zs z] {xs : List α} {i : Nat} (h : i ≤ xs.length) : (filled E zs xs i).length = xs.length * z := filled_len w.wid hz.len h
theorem filled_step' {α : Type} {E : α → List IV} {zs : List IV} {z : Nat} [w : Wid E z] [hz : LenZ zs z] {xs : List α} {i : Nat} (h : i < xs.length) : setL (filled E zs xs i) (i * z) (E xs[i]) = filled E zs xs (i + 1) := filled_step w.wid hz.len (by simp [h])
theorem filled_step1 {zs : List IV} [hz : LenZ zs 1] {xs : List ByteArray} {i : Nat} (h : i < xs.length) : (filled eS zs xs i).set i (.sc (.string xs[i])) = filled eS zs xs (i + 1) := by
  have := filled_step' (E := eS) (zs := zs) h
  rwa [Nat.mul_one] at this
theorem filled_stepI {zs : List IV} [hz : LenZ zs 1] {xs : List Int} {i : Nat} (h : i < xs.length) : (filled eI zs xs i).set i (.sc (.int .i64 xs[i])) = filled eI zs xs (i + 1) := by
  have := filled_step' (E := eI) (zs := zs) h
  rwa [Nat.mul_one] at this
end

theorem optBind_congr {α β : Type} {o o' : Option α} {f : α → Option β} (h : o = o') : o.bind f = o'.bind f := by rw [h]
attribute [congr] optBind_congr
theorem keysL_im : ∀ (cs : List IV), keysL (cs.map .im) = []
  | [] => rfl
  | x :: r => by rw [List.map_cons, keysL, keysL_im r]; rfl
theorem mget_no (k z : Value) : mget mNo k z = z := rfl
theorem mget_putI (f : Value → Option Value) (i : IntKind) (a b : Int) (v z : Value) : mget (mput f (.int i a) v) (.int i b) z = if b = a then v else mget f (.int i b) z := by
  unfold mget mput
  by_cases h : b = a
  · simp [h]
  · rw [if_neg h, if_neg (by simpa using h)]
theorem mget_putS (f : Value → Option Value) (a b : ByteArray) (v z : Value) : mget (mput f (.string a) v) (.string b) z = if b = a then v else mget f (.string b) z := by
  unfold mget mput
  by_cases h : b = a
  · simp [h]
  · rw [if_neg h, if_neg (by simpa using h)]
/-- The keys of a map that tells whether it has seen an integer. -/
def seenI (l : List Int) : Value → Option Value := fun v => match v with
  | .int .i64 n => if n ∈ l then some (.bool true) else none
  | _ => none
theorem seenI_no : mNo = seenI [] := by funext v; unfold mNo seenI; split <;> simp
theorem seenI_get (l : List Int) (n : Int) : mget (seenI l) (.int .i64 n) (.bool false) = .bool (decide (n ∈ l)) := by
  unfold mget seenI
  by_cases h : n ∈ l <;> simp [h]
theorem seenI_put (l : List Int) (n : Int) : mput (seenI l) (.int .i64 n) (.bool true) = seenI (l ++ [n]) := by
  funext v
  unfold mput seenI
  by_cases h : v = .int .i64 n
  · subst h; simp
  · rw [if_neg h]
    split
    · rename_i m
      have : m ≠ n := fun e => h (by rw [e])
      simp [this]
    · rfl
/-- The keys of a map that tells whether it has seen a text. -/
def seenS (l : List ByteArray) : Value → Option Value := fun v => match v with
  | .string n => if l.any (fun x => decide (x = n)) then some (.bool true) else none
  | _ => none
theorem seenS_no : mNo = seenS [] := by funext v; unfold mNo seenS; split <;> simp
theorem seenS_get (l : List ByteArray) (n : ByteArray) : mget (seenS l) (.string n) (.bool false) = .bool (l.any (fun x => decide (x = n))) := by
  unfold mget seenS
  simp only
  by_cases h : l.any (fun x => decide (x = n)) = true
  · rw [if_pos h, h]; rfl
  · rw [if_neg h, eq_false_of_ne_true h]; rfl
theorem seenS_put (l : List ByteArray) (n : ByteArray) : mput (seenS l) (.string n) (.bool true) = seenS (l ++ [n]) := by
  funext v
  unfold mput seenS
  by_cases h : v = .string n
  · subst h; simp
  · rw [if_neg h]
    cases v with
    | string m =>
      have : ¬ n = m := fun e => h (by rw [e])
      simp only [List.any_append, List.any_cons, List.any_nil, decide_eq_false this, Bool.or_false]
    | _ => rfl
end Go.VC
/- Keys under other names; results as trees. -/
set_option linter.unusedSimpArgs false
set_option linter.unusedVariables false
namespace Go.VC
open Go Go.RowKit
section
variable {w w' : World} {ω ω' : Lab} {κ κ' : Nat → Value} {σ σ' : Sto} {P : Program}

mutual
def Cell.ren (f : Nat → Nat) : Cell → Cell
  | .rf k o => .rf (f k) o
  | .rv k l o => .rv (f k) l o
  | .os k n => .os (f k) n
  | .ov k n o m => .ov (f k) n o m
  | .ns k j => .ns (f k) j
  | .mp k => .mp (f k)
  | .fn g caps => .fn g (renL f caps)
  | .im x => .im x
  | .nl => .nl
  | .ik c n cs => .ik c n cs
  | .bad => .bad
def renL (f : Nat → Nat) : List Cell → List Cell
  | [] => []
  | c :: r => c.ren f :: renL f r
end
def TV.ren (f : Nat → Nat) : TV → TV
  | .c x => .c (x.ren f)
  | .ag cs => .ag (renL f cs)
  | .tp ts => .tp (ts.map fun
    | .c x => .c (x.ren f)
    | .ag cs => .ag (renL f cs)
    | .tp ts => .tp ts)
def Ob.ren (f : Nat → Nat) : Ob → Ob
  | .box t cs => .box t (renL f cs)
  | o => o
def renS (f : Nat → Nat) (σ : Sto) : Sto := σ.map fun p => (f p.1, p.2.ren f)
theorem ren_len (f : Nat → Nat) (o : Ob) : (o.ren f).len? = o.len? := by cases o <;> rfl
theorem renL_len (f : Nat → Nat) : ∀ l : List Cell, (renL f l).length = l.length
  | [] => rfl
  | _ :: r => by simp [renL, renL_len f r]
theorem renL_get (f : Nat → Nat) : ∀ (l : List Cell) (j : Nat), (renL f l)[j]? = (l[j]?).map (Cell.ren f)
  | [], j => by simp [renL]
  | c :: r, 0 => by simp [renL]
  | c :: r, j + 1 => by simp [renL, renL_get f r j]
theorem get_renS {f g : Nat → Nat} (hg : ∀ k, g (f k) = k) : ∀ (σ : Sto) (k : Nat), get (renS f σ) (f k) = (get σ k).map (Ob.ren f)
  | [], k => rfl
  | (j, o) :: r, k => by
    show get ((f j, o.ren f) :: renS f r) (f k) = _
    rw [get_cons, get_cons]
    by_cases h : k = j
    · subst h; simp
    · rw [if_neg h, if_neg (fun e => h (by rw [← hg k, ← hg j, e])), get_renS hg r k]
theorem get_renS' {f : Nat → Nat} : ∀ {σ : Sto} {j : Nat} {o : Ob}, get (renS f σ) j = some o → ∃ k, j = f k
  | [], j, o, h => by cases h
  | (i, p) :: r, j, o, h => by
    have h : get ((f i, p.ren f) :: renS f r) j = some o := h
    rw [get_cons] at h
    split at h
    · rename_i e; exact ⟨i, e⟩
    · exact get_renS' h
def renW (f : Nat → Nat) (ω : Lab) : Lab := fun b => match ω b with | .ob k => .ob (f k) | l => l
theorem renW_im {f : Nat → Nat} {b : Nat} (h : ω b = .im) : renW f ω b = .im := by unfold renW; rw [h]
theorem renW_ob {f : Nat → Nat} {b k : Nat} (h : ω b = .ob k) : renW f ω b = .ob (f k) := by unfold renW; rw [h]
theorem RC.ren {f g : Nat → Nat} (hg : ∀ k, g (f k) = k) {x : Cell} {v : Value} (h : RC w ω κ σ x v) : RC w (renW f ω) (fun k => κ (g k)) (renS f σ) (x.ren f) v := by
  have him : ∀ b, ω b = .im → renW f ω b = .im ∧ w.heap[b]? = w.heap[b]? := fun b hb => ⟨renW_im hb, rfl⟩
  have hget : ∀ k o m, get (renS f σ) (f k) = some o → o.len? = some m → ∃ p, get σ k = some p ∧ p.len? = some m := fun k o m ho hm => by
    rw [get_renS hg] at ho
    obtain ⟨p, hp, rfl⟩ := Option.map_eq_some_iff.1 ho
    exact ⟨p, hp, by rw [← hm, ren_len]⟩
  induction h with
  | im x v h => exact .im x v (h.kept him)
  | nl => exact .nl
  | ik c n cs a h => exact .ik c n cs a (h.kept him)
  | rf k off b h => exact .rf _ off b (by rw [hg]; exact h)
  | rv k len off a h =>
    refine .rv _ len off a fun o m' ho hm => ?_
    obtain ⟨p, g1, g2⟩ := hget k o m' ho hm
    rw [hg]; exact h p m' g1 g2
  | os k n a c h1 h2 h =>
    refine .os _ n a c h1 h2 fun o m' ho hm => ?_
    obtain ⟨p, g1, g2⟩ := hget k o m' ho hm
    rw [hg]; exact h p m' g1 g2
  | ov k n off m a c h1 h2 h =>
    refine .ov _ n off m a c h1 h2 fun o m' ho hm => ?_
    obtain ⟨p, g1, g2⟩ := hget k o m' ho hm
    rw [hg]; exact h p m' g1 g2
  | ns k j v h =>
    refine .ns _ j v fun o m' ho hm => ?_
    obtain ⟨p, g1, g2⟩ := hget k o m' ho hm
    rw [hg]; exact h p m' g1 g2
  | mp k r h => exact .mp _ r (by rw [hg]; exact h)
  | fn g' caps vs hl h ih =>
    refine .fn g' _ vs (by rw [renL_len]; exact hl) fun j x hx => ?_
    rw [renL_get] at hx
    obtain ⟨y, hy, rfl⟩ := Option.map_eq_some_iff.1 hx
    exact ih j y hy
  | bad v => exact .bad v
theorem RT1.ren {f g : Nat → Nat} (hg : ∀ k, g (f k) = k) {x : TV} {v : Value} (h : RT1 w ω κ σ x v) : RT1 w (renW f ω) (fun k => κ (g k)) (renS f σ) (x.ren f) v := by
  cases x with
  | c x => exact RC.ren hg h
  | ag cs =>
    obtain ⟨vs, rfl, h1, h2⟩ := h
    refine ⟨vs, rfl, ⟨by rw [renL_len]; exact h1.1, fun j y z hy hz => ?_⟩, h2⟩
    rw [renL_get] at hy
    obtain ⟨y', hy', rfl⟩ := Option.map_eq_some_iff.1 hy
    exact RC.ren hg (h1.2 j y' z hy' hz)
  | tp ts => exact h.elim
theorem RT.ren {f g : Nat → Nat} (hg : ∀ k, g (f k) = k) {x : TV} {v : Value} (h : RT w ω κ σ x v) : RT w (renW f ω) (fun k => κ (g k)) (renS f σ) (x.ren f) v := by
  cases x with
  | c x => exact RC.ren hg h
  | ag cs => exact RT1.ren (x := .ag cs) hg h
  | tp ts =>
    obtain ⟨vs, rfl, h1⟩ := h
    refine ⟨vs, rfl, by simpa using h1.1, fun j y z hy hz => ?_⟩
    rw [List.getElem?_map] at hy
    obtain ⟨y', hy', rfl⟩ := Option.map_eq_some_iff.1 hy
    have := h1.2 j y' z hy' hz
    cases y' with
    | c x => exact RT1.ren hg this
    | ag cs => exact RT1.ren (x := .ag cs) hg this
    | tp ts => exact this.elim
mutual
theorem ren_anyN (f : Nat → Nat) : ∀ (c : Cell), (c.ren f).anyN = c.anyN
  | .fn g caps => renL_anyN f caps
  | .im _ | .nl | .ik _ _ _ | .rf _ _ | .rv _ _ _ | .os _ _ | .ov _ _ _ _ | .ns _ _ | .mp _ | .bad => rfl
theorem renL_anyN (f : Nat → Nat) : ∀ (l : List Cell), anyNL (renL f l) = anyNL l
  | [] => rfl
  | c :: r => by simp only [renL, anyNL, ren_anyN f c, renL_anyN f r]
end
theorem RS.ren {f g : Nat → Nat} (hg : ∀ k, g (f k) = k) (h : RS w ω κ σ) : RS w (renW f ω) (fun k => κ (g k)) (renS f σ) := by
  have him : ∀ b, ω b = .im → renW f ω b = .im ∧ w.heap[b]? = w.heap[b]? := fun b hb => ⟨renW_im hb, rfl⟩
  refine ⟨fun j o ho => ?_, fun b hb => h.dom b fun e => hb (by unfold renW; rw [e])⟩
  obtain ⟨k, rfl⟩ := get_renS' ho
  rw [get_renS hg] at ho
  obtain ⟨p, hp, rfl⟩ := Option.map_eq_some_iff.1 ho
  have hob := h.ob k p hp
  cases p with
  | box t cs =>
    obtain ⟨b, vs, h1, h2, h3, h4, h5, h6⟩ := hob
    refine ⟨b, vs, by simp only [hg]; exact h1, renW_ob h2, h3, ⟨by rw [renL_len]; exact h4.1, fun j y z hy hz => ?_⟩, h5, by rw [renL_anyN]; exact h6⟩
    rw [renL_get] at hy
    obtain ⟨y', hy', rfl⟩ := Option.map_eq_some_iff.1 hy
    exact RC.ren hg (h4.2 j y' z hy' hz)
  | vec t e n cs own =>
    obtain ⟨h0, xs, h1, h2, h3⟩ := hob
    refine ⟨h0, xs, by simp only [hg]; exact h1, fun b hb => renW_ob (h2 b (by simpa only [hg] using hb)), ?_⟩
    simp only [hg]
    unfold CellsOk at h3 ⊢
    split
    · rename_i ho; rw [if_pos ho] at h3
      obtain ⟨h4, Ss, h5, h6, h7⟩ := h3
      exact ⟨h4, Ss, h5, h6, fun j b hj hb => ⟨renW_ob (h7 j b hj hb).1, (h7 j b hj hb).2⟩⟩
    · rename_i ho; rw [if_neg ho] at h3; exact h3.imp fun x y _ hxy => hxy.kept him
  | row n cs =>
    obtain ⟨S, h1, h2⟩ := hob
    exact ⟨S, by simp only [hg]; exact h1, fun b hb => renW_ob (h2 b hb)⟩
  | map d f =>
    obtain ⟨r, es, clock, h1, h2, h3, h4⟩ := hob
    exact ⟨r, es, clock, by simp only [hg]; exact h1, renW_ob h2, h3, h4⟩
  | gl b x => exact ⟨renW_im hob.1, hob.2⟩
/-- New objects may have any names. -/
theorem FnS.ren {g : FuncId} {ys : List TV} {σ1 : Sto} {r : TV} (f f' : Nat → Nat) (hf : ∀ k, f' (f k) = k) (h : FnS P g [] ys σ1 r) : FnS P g [] ys (renS f σ1) (r.ren f) := by
  intro w ω κ vs hS hω hvs
  refine (h w ω κ vs hS hω hvs).mono fun e w' ⟨v, ω', κ', he, ht, hS', hr, hk⟩ => ⟨v, renW f ω', fun k => κ' (f' k), he, ⟨ht.os, ht.tape, ht.output, ht.size, ht.block, fun b hb => renW_im (ht.im b hb), fun b hb hn => by unfold renW; rw [ht.no b hb hn]⟩, hS'.ren hf, hr.ren hf, fun k hk' => by rw [get_nil] at hk'; cases hk'⟩
/-- A renaming that is undone. -/
structure Pm where
  f : Nat → Nat
  g : Nat → Nat
  gf : ∀ k, g (f k) = k
  fg : ∀ k, f (g k) = k
def swp (a b : Nat) (k : Nat) : Nat := if k = a then b else if k = b then a else k
theorem swp_swp (a b k : Nat) : swp a b (swp a b k) = k := by
  unfold swp
  by_cases h1 : k = a
  · subst h1; by_cases h2 : b = k <;> simp [h2]
  · by_cases h2 : k = b
    · subst h2; simp [h1]
    · simp [h1, h2]
def Pm.sw (a b : Nat) : Pm := ⟨swp a b, swp a b, swp_swp a b, swp_swp a b⟩
def Pm.then (p q : Pm) : Pm := ⟨fun k => q.f (p.f k), fun k => p.g (q.g k), fun k => by rw [q.gf, p.gf], fun k => by rw [p.fg, q.fg]⟩
theorem pm1 (s t : Nat) : ∃ p : Pm, p.f s = t := ⟨Pm.sw s t, by simp [Pm.sw, swp]⟩
theorem pm2 {s1 s2 : Nat} (hs : s1 ≠ s2) {t1 t2 : Nat} (ht : t1 ≠ t2) : ∃ p : Pm, p.f s1 = t1 ∧ p.f s2 = t2 := by
  obtain ⟨p, hp⟩ := pm1 s1 t1
  refine ⟨p.then (Pm.sw (p.f s2) t2), ?_, ?_⟩
  · have h1 : p.f s1 ≠ p.f s2 := fun e => hs (by rw [← p.gf s1, ← p.gf s2, e])
    simp [Pm.then, Pm.sw, swp, hp ▸ h1, hp, ht]
  · simp [Pm.then, Pm.sw, swp]
theorem pm3 {s1 s2 s3 : Nat} (hs : s1 ≠ s2 ∧ s1 ≠ s3 ∧ s2 ≠ s3) {t1 t2 t3 : Nat} (ht : t1 ≠ t2 ∧ t1 ≠ t3 ∧ t2 ≠ t3) : ∃ p : Pm, p.f s1 = t1 ∧ p.f s2 = t2 ∧ p.f s3 = t3 := by
  obtain ⟨p, h1, h2⟩ := pm2 hs.1 ht.1
  have e1 : t1 ≠ p.f s3 := fun e => hs.2.1 (by rw [← p.gf s1, ← p.gf s3, h1, e])
  have e2 : t2 ≠ p.f s3 := fun e => hs.2.2 (by rw [← p.gf s2, ← p.gf s3, h2, e])
  refine ⟨p.then (Pm.sw (p.f s3) t3), ?_, ?_, ?_⟩
  · simp [Pm.then, Pm.sw, swp, h1, e1, ht.2.1]
  · simp [Pm.then, Pm.sw, swp, h2, e2, ht.2.2]
  · simp [Pm.then, Pm.sw, swp]
theorem FnS.pm {g : FuncId} {ys : List TV} {σ1 : Sto} {r : TV} (p : Pm) (h : FnS P g [] ys σ1 r) : FnS P g [] ys (renS p.f σ1) (r.ren p.f) := h.ren p.f p.g p.gf

/-- A result that is a tree. -/
theorem FnS.tree {g : FuncId} {ys : List TV} {σ1 : Sto} {r r' : TV} (h : FnS P g [] ys σ1 r) (hr : argT σ1 r = some r') : FnS P g [] ys [] r' := by
  intro w ω κ vs hS hω hvs
  refine (h w ω κ vs hS hω hvs).mono fun e w' ⟨v, ω', κ', he, ht, hS', hrv, hk⟩ => ⟨v, allIm ω', κ', he, ⟨ht.os, ht.tape, ht.output, ht.size, ht.block, fun b hb => allIm_im (ht.im b hb), fun b hb hn => by unfold allIm; rw [ht.no b hb hn]⟩, ⟨fun k o ho => (by rw [get_nil] at ho; cases ho), fun b hb => hS'.dom b fun e => hb (by unfold allIm; rw [e])⟩, ?_, fun k hk' => (by rw [get_nil] at hk'; cases hk')⟩
  cases r with
  | c x =>
    obtain ⟨z, hz, rfl⟩ := Option.map_eq_some_iff.1 hr
    exact .im _ _ (toIV_ok hS' hrv hz)
  | ag cs =>
    obtain ⟨zs, hz, rfl⟩ := Option.map_eq_some_iff.1 hr
    obtain ⟨us, rfl, g1, g2⟩ := hrv
    have := toIVL_ok hS' hz g1
    refine ⟨us, rfl, ⟨by simp [this.1], fun j p q hp hq => ?_⟩, g2⟩
    rw [List.getElem?_map] at hp
    obtain ⟨z, hz', rfl⟩ := Option.map_eq_some_iff.1 hp
    exact .im _ _ (this.2 j z q hz' hq)
  | tp ts => cases hr

/-! Sizes of trees. -/
def okV (b : Nat) : Value → Prop
  | .string s => s.size ≤ b
  | .int k n => k.min ≤ n ∧ n ≤ k.max
  | _ => True
mutual
def okI (b : Nat) : IV → Prop
  | .sc v => okV b v
  | .sl n cs => n ≤ b ∧ okL b cs
  | .pt cs => okL b cs
  | .fn _ cs => okL b cs
def okL (b : Nat) : List IV → Prop
  | [] => True
  | x :: r => okI b x ∧ okL b r
end
def mV : Value → Nat
  | .string s => s.size
  | _ => 0
mutual
def mI : IV → Nat
  | .sc v => mV v
  | .sl n cs => n + mL cs
  | .pt cs => mL cs
  | .fn _ cs => mL cs
def mL : List IV → Nat
  | [] => 0
  | x :: r => mI x + mL r
end
mutual
theorem okI_down {B b : Nat} : ∀ {x : IV}, okI B x → mI x ≤ b → okI b x
  | .sc v, h, g => by
    cases v <;> simp only [okI, okV, mI, mV] at h g ⊢ <;> first | trivial | exact g | exact h
  | .sl n cs, h, g => by
    simp only [okI, mI] at h g ⊢
    exact ⟨by omega, okL_down h.2 (by omega)⟩
  | .pt cs, h, g => by
    simp only [okI, mI] at h g ⊢
    exact okL_down h g
  | .fn _ cs, h, g => by
    simp only [okI, mI] at h g ⊢
    exact okL_down h g
theorem okL_down {B b : Nat} : ∀ {l : List IV}, okL B l → mL l ≤ b → okL b l
  | [], _, _ => by simp only [okL]
  | x :: r, h, g => by
    simp only [okL, mL] at h g ⊢
    exact ⟨okI_down h.1 (by omega), okL_down h.2 (by omega)⟩
end
theorem okL_append {b : Nat} : ∀ {x y : List IV}, okL b (x ++ y) ↔ okL b x ∧ okL b y
  | [], y => by simp [okL]
  | x :: r, y => by simp [okL, okL_append, and_assoc]
theorem okL_flat {b : Nat} {α : Type} {E : α → List IV} : ∀ {xs : List α}, okL b (xs.flatMap E) ↔ ∀ x ∈ xs, okL b (E x)
  | [] => by simp [okL]
  | x :: r => by rw [List.flatMap_cons, okL_append, okL_flat]; simp
theorem okI_slI {b : Nat} {α : Type} {E : α → List IV} {xs : List α} : okI b (slI E xs) ↔ xs.length ≤ b ∧ ∀ x ∈ xs, okL b (E x) := by simp [slI, okI, okL_flat]
theorem mL_append : ∀ {x y : List IV}, mL (x ++ y) = mL x + mL y
  | [], y => by simp [mL]
  | x :: r, y => by simp [mL, mL_append, Nat.add_assoc]
theorem mL_flat {α : Type} {E : α → List IV} : ∀ {xs : List α}, mL (xs.flatMap E) = (xs.map fun x => mL (E x)).sum
  | [] => by simp [mL]
  | x :: r => by rw [List.flatMap_cons, mL_append, mL_flat]; simp
theorem mI_slI {α : Type} {E : α → List IV} {xs : List α} : mI (slI E xs) = xs.length + (xs.map fun x => mL (E x)).sum := by rw [slI, mI, mL_flat]
end
end Go.VC
/- The rules of the simplifier, under one name: no statement of a program. -/
set_option linter.unusedVariables false
set_option linter.defProp false
set_option maxRecDepth 10000
namespace Go.VC
open Go
def vp0 := (And.intro (And.intro (And.intro (And.intro @onS_some (And.intro @gdP_t @gdP_f)) (And.intro @slT.eq_1 (And.intro @slI.eq_1 @iT.eq_1))) (And.intro (And.intro @bT.eq_1 (And.intro @sT.eq_1 @agT.eq_1)) (And.intro @opsW_nil (And.intro @opsW_cons @gdOf.eq_1)))) (And.intro (And.intro (And.intro @wpO.eq_1 (And.intro @opd.eq_1 @opd.eq_2)) (And.intro @opd.eq_3 (And.intro @opd.eq_4 @argE.eq_1))) (And.intro (And.intro @argE.eq_2 (And.intro @St.put.eq_1 @get_cons)) (And.intro @get_nil (And.intro @upd.eq_1 @upd.eq_2)))))
def vp1 := (And.intro (And.intro (And.intro (And.intro @condK.eq_1 (And.intro @opsT.eq_1 @opsT.eq_2)) (And.intro @opds.eq_1 (And.intro @opds.eq_2 @sub.eq_1))) (And.intro (And.intro @ixa_im (And.intro @ixa_ik @ixa_os)) (And.intro @ix_str (And.intro @flat_get @flat_get0)))) (And.intro (And.intro (And.intro @flat_get1 (And.intro @wrap64 @toNat_pred)) (And.intro @toNat_succ (And.intro @cast_succ @evSlice.eq_1))) (And.intro (And.intro @partOf.eq_1 (And.intro @partOv.eq_1 @partOv.eq_2)) (And.intro @bnd.eq_1 (And.intro @bnd.eq_2 @evBuild.eq_1)))))
def vp2 := (And.intro (And.intro (And.intro (And.intro @fillC.eq_1 (And.intro @fillC.eq_2 (And.intro @setL_st (And.intro @stL_one @stL_c0)))) (And.intro (And.intro @stL_cs (And.intro @List.set_cons_zero.{0} @List.set_cons_succ.{0})) (And.intro @ofC.eq_1 @bsV.eq_1))) (And.intro (And.intro @dW_nil (And.intro @dW_step @qW_nil)) (And.intro @qW_cons (And.intro @noE.eq_1 @noE.eq_2)))) (And.intro (And.intro (And.intro @nnE.eq_1 (And.intro @nnE.eq_2 @TV.has.eq_1)) (And.intro @TV.has.eq_2 (And.intro @TV.has.eq_3 @hasL.eq_1))) (And.intro (And.intro @hasL.eq_2 (And.intro @TV.hasN.eq_1 @TV.hasN.eq_2)) (And.intro @TV.hasN.eq_3 (And.intro @hasNL.eq_1 @hasNL.eq_2)))))
def vp3 := (And.intro (And.intro (And.intro (And.intro @anyNL.eq_1 (And.intro @anyNL.eq_2 @subE.eq_1)) (And.intro @subE.eq_2 (And.intro @subS.eq_1 @subS.eq_2))) (And.intro (And.intro @resOf.eq_1 (And.intro @resOf.eq_2 @resOf.eq_3)) (And.intro @retOf.eq_1 (And.intro @argTs.eq_1 @argTs.eq_2)))) (And.intro (And.intro (And.intro @argT.eq_1 (And.intro @argT.eq_2 @argT.eq_3)) (And.intro @toIVL.eq_1 (And.intro @toIVL.eq_2 @toIVB.eq_1))) (And.intro (And.intro @toIVB.eq_2 (And.intro @Ob.len?.eq_1 @Ob.len?.eq_2)) (And.intro @Ob.len?.eq_3 (And.intro @Ob.cells.eq_1 @Ob.cells.eq_2)))))
def vp4 := (And.intro (And.intro (And.intro (And.intro @Ob.cells.eq_3 (And.intro @mixO.eq_1 @flatZ.eq_1)) (And.intro @delL.eq_1 (And.intro @delL.eq_2 @del.eq_1))) (And.intro (And.intro @del.eq_2 (And.intro @ownCells.eq_1 @ownCells.eq_2)) (And.intro @keepE.eq_1 (And.intro @keepE.eq_2 @dropE.eq_1)))) (And.intro (And.intro (And.intro @dropE.eq_2 (And.intro @memN.eq_1 @memN.eq_2)) (And.intro @delN.eq_1 (And.intro @delN.eq_2 @St.frzAll.eq_1))) (And.intro (And.intro @St.frzD.eq_1 (And.intro @St.frz.eq_1 @frzE.eq_1)) (And.intro @frzE.eq_2 (And.intro @frzS.eq_1 @frzS.eq_2)))))
def vp5 := (And.intro (And.intro (And.intro (And.intro @TV.frz.eq_1 (And.intro @TV.frz.eq_2 @TV.frz.eq_3)) (And.intro @keysL.eq_1 (And.intro @keysL.eq_2 @TV.keys.eq_1))) (And.intro (And.intro @TV.keys.eq_2 (And.intro @TV.keys.eq_3 @List.foldl.eq_1.{0, 0})) (And.intro @List.foldl.eq_2.{0, 0} (And.intro @opcs.eq_1 @opcs.eq_2)))) (And.intro (And.intro (And.intro @freshB.eq_1 (And.intro @dom.eq_1 @List.all_cons.{0})) (And.intro @List.all_nil.{0} (And.intro @Option.bind_some.{0, 0} @Option.bind_none.{0, 0}))) (And.intro (And.intro @Option.map_some.{0, 0} (And.intro @Option.map_none.{0, 0} @Option.isSome_some.{0})) (And.intro @Option.isSome_none.{0} (And.intro @true_and @and_true)))))
def vp6 := (And.intro (And.intro (And.intro (And.intro @Bool.not_true (And.intro @Bool.not_false @Bool.and_true)) (And.intro @Bool.true_and (And.intro @Bool.and_false @Bool.false_and))) (And.intro (And.intro @Bool.false_or (And.intro @Bool.or_false @Bool.true_or)) (And.intro @Bool.or_true (And.intro @Bool.or_self @Bool.and_self)))) (And.intro (And.intro (And.intro @Bool.false_eq_true (And.intro @forall_const.{0} @List.take.eq_1.{0})) (And.intro @List.take.eq_2.{0} (And.intro @List.take.eq_3.{0} @List.drop.eq_1.{0}))) (And.intro (And.intro @List.drop.eq_2.{0} (And.intro @List.drop.eq_3.{0} @List.set_cons_zero.{0})) (And.intro @List.set_cons_succ.{0} (And.intro @List.length_set.{0} @Nat.le_refl)))))
def vp7 := (And.intro (And.intro (And.intro (And.intro @List.getElem?_cons_zero.{0} (And.intro @List.getElem?_cons_succ.{0} @List.getElem?_nil.{0})) (And.intro @List.map_cons.{0, 0} (And.intro @List.map_nil.{0, 0} @List.append_nil.{0}))) (And.intro (And.intro @List.nil_append.{0} (And.intro @List.cons_append.{0} @List.length_cons.{0})) (And.intro @List.length_nil.{0} (And.intro @Nat.zero_add @beq_self_eq_true.{0})))) (And.intro (And.intro (And.intro @ne_eq.{0} (And.intro @not_false_eq_true @not_true_eq_false)) (And.intro @decide_true (And.intro @decide_false @List.size_toArray.{0}))) (And.intro (And.intro @List.getElem?_toArray.{0} (And.intro @Option.some.injEq.{0} @List.range.eq_1)) (And.intro @List.range.loop.eq_1 (And.intro @List.range.loop.eq_2 @bsCells.eq_1)))))
def vp8 := (And.intro (And.intro (And.intro (And.intro @List.getD_cons_zero.{0} (And.intro @List.getD_cons_succ.{0} @false_or)) (And.intro @or_false (And.intro @exists_const.{0} @and_self))) (And.intro (And.intro @eq_self.{0} (And.intro @Nat.mul_one @Nat.add_zero)) (And.intro @Int.toNat_natCast (And.intro @Int.natCast_nonneg @Int.ofNat_lt)))) (And.intro (And.intro (And.intro @List.getElem?_drop.{0} (And.intro @List.getElem?_map.{0, 0} @beq_false)) (And.intro @beq_true (And.intro @Bool.not_eq_true' @Bool.not_eq_false'))) (And.intro (And.intro @Option.getD_some.{0} (And.intro @false_implies @true_implies)) (And.intro @List.mem_nil_iff.{0} (And.intro @List.not_mem_nil.{0} @List.mem_singleton.{0})))))
def vp9 := (And.intro (And.intro (And.intro @List.mem_cons.{0} @Nat.not_lt_zero) (And.intro @implies_true.{0} (And.intro @Int.toNat_zero @Nat.zero_mul))) (And.intro (And.intro @filled_len' @filled_step1) (And.intro @filled_stepI (And.intro @filled_all @Bool.not_not))))
def vs := (And.intro (And.intro (And.intro vp0 vp1) (And.intro vp2 (And.intro vp3 vp4))) (And.intro (And.intro vp5 vp6) (And.intro vp7 (And.intro vp8 vp9))))
def vh := (And.intro (And.intro (And.intro (And.intro @decide_eq_true_eq @decide_eq_false_iff_not) (And.intro @Bool.not_eq_true' @Bool.not_eq_false')) (And.intro (And.intro @Int.not_lt @Int.not_le) (And.intro @Int.ofNat_lt (And.intro @Int.ofNat_le @Int.natCast_inj)))) (And.intro (And.intro (And.intro @bne_iff_ne.{0} @beq_iff_eq.{0}) (And.intro @Bool.or_eq_true @Bool.and_eq_true)) (And.intro (And.intro @Bool.or_eq_false_iff @Bool.and_eq_false_imp) (And.intro @Int.natCast_eq_zero (And.intro @Int.natCast_pos @Int.natCast_nonneg)))))
end Go.VC
/- Runs through code, each under one name: the tactics stand as defaults of premises: no statement of a program. -/
set_option linter.unusedVariables false
namespace Go.VC
open Go
theorem ifsz {n : Nat} {α : Type} {a b : α} (h : (n : Int) ≤ 9223372036854775807) : (if (n : Int) ≤ 9223372036854775807 then a else b) = a := if_pos h
/-- The variables that are wanted later. -/
structure Kp (L : List Nat) : Prop where
/-- What is frozen at the return. -/
structure Ky (L : List Nat) : Prop where
/-- One goal, and more. -/
structure Lf (A B : Prop) : Prop where
  l : A
  r : B
/-- A proof, kept in a box. -/
structure Bx (p : Prop) : Type where
  h : p
/-- Always true: to tell what a proposition is. -/
inductive Dd (p : Prop) : Prop
  | mk
theorem Dd.t : Dd True := .mk
theorem Cont.keepK {P : Program} {s : St} {L : List Nat} (_ : Kp L) {d : Code} {K : Exit → St → Prop} (h : Sm P d ⟨s.N, keepE L s.E, s.σ⟩ K) : Cont P d K s := Cont.keep L h
theorem RetK.any {P : Program} {s : St} {ks : List Nat} (_ : Ky ks) {l : List ResultVar} {σ1 : Sto} {r : TV} {e : Exit} (he : e = .normal ∨ e = .ret) (h : retOf P (s.frzAll ks) l = some r) (h' : subS (s.frzAll ks).σ σ1) : RetK P l σ1 r e s :=
  ⟨he, ks, h, subS_ok h'⟩
theorem FnS.go {P : Program} {g : FuncId} {fn : Func} {c : Code} {args : List TV} {σ0 σ1 : Sto} {r : TV} (L ks : List Nat) (hf : P.funcs[g]? = some fn) (hb : fn.body = some c)
    (h : Kp L → Ky ks → Sm P c ⟨fn.ntmps, argE 0 args, σ0⟩ (RetK P fn.results.toList σ1 r))
    (hN : Nat.ble args.length fn.ntmps = true := by rfl) (hodd : ∀ k, (get σ0 k).isSome = true → k % 2 = 1 := by first | (intro k h; rw [get_nil] at h; cases h) | (simp [get_cons, get_nil]; try omega)) : FnS P g σ0 args σ1 r :=
  FnS.of hf hb (Nat.le_of_ble_eq_true hN) hodd (h ⟨⟩ ⟨⟩)
/-- How many operations of a drawn region may stand in any order. -/
structure Dk (n : Nat) : Prop where
theorem Sm.drawK {P : Program} {s : St} {id n : Nat} (_ : Dk n) {ops : Array Oper} {K : Exit → St → Prop} {l1 l2 : List Oper} (hm : P.follows .mixedOrders = true) (hb : drawB ops n = true) (h1 : ops.toList.take n = l1) (h2 : ops.toList.drop n = l2)
    (h : qW P ops l1 s fun s' => opsW P ops l2 s' (K .normal)) : Sm P (.region id ops true) s K := Sm.draw hm hb (by subst h1; subst h2; exact h)
theorem goQW {P : Program} {ops : Array Oper} {l : List Oper} {s : St} {K : St → Prop} (h : qW P ops l s K) : qW P ops l s K := h
theorem goOps {P : Program} {ops : Array Oper} {l : List Oper} {s : St} {K : St → Prop} (h : opsW P ops l s K) : opsW P ops l s K := h
theorem goDW {P : Program} {ops : Array Oper} {l : List Oper} {s : St} {K : St → Prop} (h : dW P ops l s K) : dW P ops l s K := h
theorem goOn {α : Type} {o : Option α} {f : α → Prop} {t : Tg f} (h : onS o f t) : onS o f t := h
theorem goGd {g : Option Bool} {X Y : Prop} {t : Tg X} {t' : Tg Y} (h : gdP g X Y t t') : gdP g X Y t t' := h
/-- Run on to what must be told by hand: at most nine goals. -/
theorem Run {F G R1 R2 R3 R4 R5 R6 R7 R8 R9 : Prop} (f : F) (r : Lf R1 (Lf R2 (Lf R3 (Lf R4 (Lf R5 (Lf R6 (Lf R7 (Lf R8 R9))))))))
    (d : F → Bx R1 → Bx R2 → Bx R3 → Bx R4 → Bx R5 → Bx R6 → Bx R7 → Bx R8 → Bx R9 → Lf G (Lf (Dd R1) (Lf (Dd R2) (Lf (Dd R3) (Lf (Dd R4) (Lf (Dd R5) (Lf (Dd R6) (Lf (Dd R7) (Lf (Dd R8) (Dd R9))))))))) := by
      intro fx r1 r2 r3 r4 r5 r6 r7 r8 r9
      refine Lf.mk ?_ ?_
      · repeat' (first
          | ((with_reducible refine Cont.keepK kt ?_); try simp only [keepE, memN, delN, ↓reduceIte, Nat.reduceEqDiff, Bool.false_eq_true])
          | (with_reducible refine Sm.seq ?_)
          | (with_reducible refine Sm.block ?_)
          | ((first | (with_reducible refine Sm.skip ?_) | (with_reducible refine Sm.exit ?_) | (with_reducible refine Sm.ret ?_)); try simp only [Kn, Kb, ↓reduceIte, Nat.reduceEqDiff])
          | (((first | (with_reducible refine Sm.region ?_) | (with_reducible refine Sm.drawK dn mixed (by decide +kernel) (by (simp only [List.take_succ_cons, List.take_zero, List.drop_succ_cons, List.drop_zero]); exact rfl) (by (simp only [List.take_succ_cons, List.take_zero, List.drop_succ_cons, List.drop_zero]); exact rfl) ?_) | (with_reducible refine Sm.drawT mixed (by decide +kernel) ?_) | (with_reducible refine RetK.any kz (by simp) ?_ ?_) | (with_reducible refine Sm.test ?_) | (with_reducible refine goOps ?_) | (with_reducible refine goDW ?_) | (with_reducible refine goQW ?_) | (with_reducible refine goOn ?_) | (with_reducible refine goGd ?_)) <;> simp -dsimp (maxSteps := 2000000) (disch := omega) only [vs, ↓Option.bind_some, ev1, ofV, scalarB, Kn, Kb, calleeOf, evLoad, ptr, evField, evFieldAddr, shift, ↓pt_at, ↓pt_at1, evExtract, evBin, evLen, evConv, cellsT, noS, Cell.has, Cell.hasN, Cell.anyN, toIV, toIV0, toIVs, ownC, srcM, Ob.own, Ob.esz, allSc, nilK, lenC, ownCell, isPtr, ptrNil, frzO, Cell.frz, Cell.keys, ↓reduceIte, reduceCtorEq, Nat.reduceEqDiff, Nat.reduceBEq, Nat.reduceBNe, Nat.reduceAdd, Nat.reduceMul, Nat.reduceSub, Nat.reduceLT, Nat.reduceLeDiff, Nat.reducePow, Int.reduceLT, Int.reduceLE, Int.reduceEq, Int.reduceNe, quietB, Nat.reduceMod, Int.reduceToNat, ne_eq, eq_self, exists_const, evBytes, byRow, byL, byStr_size, ifsz, ByteArray.size_append, Option.none_or, Option.some_or, evLook, keyD, fcx, fx]); try (with_reducible refine ⟨fun hq => ?_, fun hq => ?_⟩ <;> (try simp only [vh, ne_eq] at hq)))
          | ((with_reducible refine gdP_split (fun hq => ?_) (fun hq => ?_)) <;> ((try simp only [vh, ne_eq] at hq); simp -dsimp (maxSteps := 2000000) (disch := omega) only [vs, ↓Option.bind_some, ev1, ofV, scalarB, Kn, Kb, calleeOf, evLoad, ptr, evField, evFieldAddr, shift, ↓pt_at, ↓pt_at1, evExtract, evBin, evLen, evConv, cellsT, noS, Cell.has, Cell.hasN, Cell.anyN, toIV, toIV0, toIVs, ownC, srcM, Ob.own, Ob.esz, allSc, nilK, lenC, ownCell, isPtr, ptrNil, frzO, Cell.frz, Cell.keys, ↓reduceIte, reduceCtorEq, Nat.reduceEqDiff, Nat.reduceBEq, Nat.reduceBNe, Nat.reduceAdd, Nat.reduceMul, Nat.reduceSub, Nat.reduceLT, Nat.reduceLeDiff, Nat.reducePow, Int.reduceLT, Int.reduceLE, Int.reduceEq, Int.reduceNe, quietB, Nat.reduceMod, Int.reduceToNat, ne_eq, eq_self, exists_const, evBytes, byRow, byL, byStr_size, ifsz, ByteArray.size_append, Option.none_or, Option.some_or, evLook, keyD, fcx, hq, fx]))
          | (with_reducible refine ⟨(by first | omega | (simp only [maxLen]; omega)), ?_⟩)
          | fail)
        all_goals ((repeat revert hq); first | (with_reducible exact r1.h) | (with_reducible exact r2.h) | (with_reducible exact r3.h) | (with_reducible exact r4.h) | (with_reducible exact r5.h) | (with_reducible exact r6.h) | (with_reducible exact r7.h) | (with_reducible exact r8.h) | (with_reducible exact r9.h))
      · (refine ⟨?_, ?_, ?_, ?_, ?_, ?_, ?_, ?_, ?_⟩) <;> first | (with_reducible exact Dd.t) | (with_reducible exact Dd.mk)) : G :=
  (d f ⟨r.l⟩ ⟨r.r.l⟩ ⟨r.r.r.l⟩ ⟨r.r.r.r.l⟩ ⟨r.r.r.r.r.l⟩ ⟨r.r.r.r.r.r.l⟩ ⟨r.r.r.r.r.r.r.l⟩ ⟨r.r.r.r.r.r.r.r.l⟩ ⟨r.r.r.r.r.r.r.r.r⟩).l
/-- A call by its contract; the result is a scalar, or new objects. -/
theorem Cal {F C G R : Prop} (f : F) (c : C) (r : R) (d : F → C → Bx R → G := by
      intro fx cx rx
      (first
        | refine CallG.pure cx ?_ ⟨(by first | rfl | simp [TV.keys, keysL_im, agT, keysIn]), (by first | rfl | simp [TV.keys, keysL_im, agT, keysIn])⟩ ⟨(by first | rfl | simp [TV.keys, keysL_im, agT, keysIn]), (by first | rfl | simp [TV.keys, keysL_im, agT, keysIn])⟩ ?_ (by simp only [Nat.reduceLT]) ?_
        | refine CallQ.pure cx ?_ (by first | rfl | simp [TV.keys, keysL_im, agT, keysIn]) (by first | rfl | simp [TV.keys, keysL_im, agT, keysIn]) ?_) <;> ((try simp -dsimp (maxSteps := 2000000) (disch := omega) only [vs, ↓Option.bind_some, ev1, ofV, scalarB, Kn, Kb, calleeOf, evLoad, ptr, evField, evFieldAddr, shift, ↓pt_at, ↓pt_at1, evExtract, evBin, evLen, evConv, cellsT, noS, Cell.has, Cell.hasN, Cell.anyN, toIV, toIV0, toIVs, ownC, srcM, Ob.own, Ob.esz, allSc, nilK, lenC, ownCell, isPtr, ptrNil, frzO, Cell.frz, Cell.keys, ↓reduceIte, reduceCtorEq, Nat.reduceEqDiff, Nat.reduceBEq, Nat.reduceBNe, Nat.reduceAdd, Nat.reduceMul, Nat.reduceSub, Nat.reduceLT, Nat.reduceLeDiff, Nat.reducePow, Int.reduceLT, Int.reduceLE, Int.reduceEq, Int.reduceNe, quietB, Nat.reduceMod, Int.reduceToNat, ne_eq, eq_self, exists_const, evBytes, byRow, byL, byStr_size, ifsz, ByteArray.size_append, Option.none_or, Option.some_or, evLook, keyD, fcx, fx]) <;> first | (with_reducible rfl) | exact rx.h)) : G := d f c ⟨r⟩
/-- A call by its contract; what is handed over is all's. -/
theorem CalI {F C G R : Prop} (f : F) (c : C) (r : R) (d : F → C → Bx R → G := by
      intro fx cx rx
      (first
        | refine CallG.val cx ?_ ⟨(by first | rfl | simp [TV.keys, keysL_im, agT, keysIn]), (by first | rfl | simp [TV.keys, keysL_im, agT, keysIn])⟩ ?_ (by simp only [Nat.reduceLT]) ?_
        | refine CallQ.val cx ?_ (by first | rfl | simp [TV.keys, keysL_im, agT, keysIn]) ?_) <;> ((try simp -dsimp (maxSteps := 2000000) (disch := omega) only [vs, ↓Option.bind_some, ev1, ofV, scalarB, Kn, Kb, calleeOf, evLoad, ptr, evField, evFieldAddr, shift, ↓pt_at, ↓pt_at1, evExtract, evBin, evLen, evConv, cellsT, noS, Cell.has, Cell.hasN, Cell.anyN, toIV, toIV0, toIVs, ownC, srcM, Ob.own, Ob.esz, allSc, nilK, lenC, ownCell, isPtr, ptrNil, frzO, Cell.frz, Cell.keys, ↓reduceIte, reduceCtorEq, Nat.reduceEqDiff, Nat.reduceBEq, Nat.reduceBNe, Nat.reduceAdd, Nat.reduceMul, Nat.reduceSub, Nat.reduceLT, Nat.reduceLeDiff, Nat.reducePow, Int.reduceLT, Int.reduceLE, Int.reduceEq, Int.reduceNe, quietB, Nat.reduceMod, Int.reduceToNat, ne_eq, eq_self, exists_const, evBytes, byRow, byL, byStr_size, ifsz, ByteArray.size_append, Option.none_or, Option.some_or, evLook, keyD, fcx, fx]) <;> first | (with_reducible rfl) | exact rx.h)) : G := d f c ⟨r⟩
/-- A loop, by its variables and objects at a round's head. -/
theorem Trn {F : Prop} {P : Program} {s : St} {α : Type} {c : Code} {K : Exit → St → Prop} (M : List Nat) (u : α → Env) (τ : α → Sto) (ok : α → Prop) (μ : α → Nat) (x0 : α) (h0 : ok x0) (f : F) {R : α → Prop} (r : ∀ x, ok x → R x)
    (hE : F → subE s.E (u x0) := by intro fx; first | trivial | (simp -dsimp (maxSteps := 2000000) (disch := omega) only [vs, ↓Option.bind_some, ev1, ofV, scalarB, Kn, Kb, calleeOf, evLoad, ptr, evField, evFieldAddr, shift, ↓pt_at, ↓pt_at1, evExtract, evBin, evLen, evConv, cellsT, noS, Cell.has, Cell.hasN, Cell.anyN, toIV, toIV0, toIVs, ownC, srcM, Ob.own, Ob.esz, allSc, nilK, lenC, ownCell, isPtr, ptrNil, frzO, Cell.frz, Cell.keys, ↓reduceIte, reduceCtorEq, Nat.reduceEqDiff, Nat.reduceBEq, Nat.reduceBNe, Nat.reduceAdd, Nat.reduceMul, Nat.reduceSub, Nat.reduceLT, Nat.reduceLeDiff, Nat.reducePow, Int.reduceLT, Int.reduceLE, Int.reduceEq, Int.reduceNe, quietB, Nat.reduceMod, Int.reduceToNat, ne_eq, eq_self, exists_const, evBytes, byRow, byL, byStr_size, ifsz, ByteArray.size_append, Option.none_or, Option.some_or, evLook, keyD, fcx, fx]; try trivial))
    (hS : F → subS s.σ (τ x0) := by intro fx; first | trivial | (simp -dsimp (maxSteps := 2000000) (disch := omega) only [vs, ↓Option.bind_some, ev1, ofV, scalarB, Kn, Kb, calleeOf, evLoad, ptr, evField, evFieldAddr, shift, ↓pt_at, ↓pt_at1, evExtract, evBin, evLen, evConv, cellsT, noS, Cell.has, Cell.hasN, Cell.anyN, toIV, toIV0, toIVs, ownC, srcM, Ob.own, Ob.esz, allSc, nilK, lenC, ownCell, isPtr, ptrNil, frzO, Cell.frz, Cell.keys, ↓reduceIte, reduceCtorEq, Nat.reduceEqDiff, Nat.reduceBEq, Nat.reduceBNe, Nat.reduceAdd, Nat.reduceMul, Nat.reduceSub, Nat.reduceLT, Nat.reduceLeDiff, Nat.reducePow, Int.reduceLT, Int.reduceLE, Int.reduceEq, Int.reduceNe, quietB, Nat.reduceMod, Int.reduceToNat, ne_eq, eq_self, exists_const, evBytes, byRow, byL, byStr_size, ifsz, ByteArray.size_append, Option.none_or, Option.some_or, evLook, keyD, fcx, fx]; try trivial))
    (d : ∀ x, Bx (R x) → Sm P c ⟨s.N, u x ++ dropE M s.E, τ x⟩ (Kn (RoundC (fun x => ⟨s.N, u x ++ dropE M s.E, τ x⟩) ok μ x) K) := by
      intro x rx
      simp only [dropE, memN, ↓reduceIte, Nat.reduceEqDiff, Bool.false_eq_true, List.nil_append, List.cons_append, List.append_nil, reduceCtorEq]
      exact rx.h) : Sm P (.loop c) s K :=
  Sm.turns M u τ ok μ x0 h0 (hE f) (hS f) fun x hx => d x ⟨r x hx⟩
/-- The next round. -/
theorem Nxt {F : Prop} {α : Type} {inv : α → St} {ok : α → Prop} {μ : α → Nat} {x : α} {s' : St} (f : F) (y : α) (h1 : ok y) (h2 : μ y < μ x)
    (h4 : F → subE s'.E (inv y).E := by intro fx; first | trivial | (simp -dsimp (maxSteps := 2000000) (disch := omega) only [vs, ↓Option.bind_some, ev1, ofV, scalarB, Kn, Kb, calleeOf, evLoad, ptr, evField, evFieldAddr, shift, ↓pt_at, ↓pt_at1, evExtract, evBin, evLen, evConv, cellsT, noS, Cell.has, Cell.hasN, Cell.anyN, toIV, toIV0, toIVs, ownC, srcM, Ob.own, Ob.esz, allSc, nilK, lenC, ownCell, isPtr, ptrNil, frzO, Cell.frz, Cell.keys, ↓reduceIte, reduceCtorEq, Nat.reduceEqDiff, Nat.reduceBEq, Nat.reduceBNe, Nat.reduceAdd, Nat.reduceMul, Nat.reduceSub, Nat.reduceLT, Nat.reduceLeDiff, Nat.reducePow, Int.reduceLT, Int.reduceLE, Int.reduceEq, Int.reduceNe, quietB, Nat.reduceMod, Int.reduceToNat, ne_eq, eq_self, exists_const, evBytes, byRow, byL, byStr_size, ifsz, ByteArray.size_append, Option.none_or, Option.some_or, evLook, keyD, fcx, fx]; try trivial))
    (h5 : F → subS s'.σ (inv y).σ := by intro fx; first | trivial | (simp -dsimp (maxSteps := 2000000) (disch := omega) only [vs, ↓Option.bind_some, ev1, ofV, scalarB, Kn, Kb, calleeOf, evLoad, ptr, evField, evFieldAddr, shift, ↓pt_at, ↓pt_at1, evExtract, evBin, evLen, evConv, cellsT, noS, Cell.has, Cell.hasN, Cell.anyN, toIV, toIV0, toIVs, ownC, srcM, Ob.own, Ob.esz, allSc, nilK, lenC, ownCell, isPtr, ptrNil, frzO, Cell.frz, Cell.keys, ↓reduceIte, reduceCtorEq, Nat.reduceEqDiff, Nat.reduceBEq, Nat.reduceBNe, Nat.reduceAdd, Nat.reduceMul, Nat.reduceSub, Nat.reduceLT, Nat.reduceLeDiff, Nat.reducePow, Int.reduceLT, Int.reduceLE, Int.reduceEq, Int.reduceNe, quietB, Nat.reduceMod, Int.reduceToNat, ne_eq, eq_self, exists_const, evBytes, byRow, byL, byStr_size, ifsz, ByteArray.size_append, Option.none_or, Option.some_or, evLook, keyD, fcx, fx]; try trivial)) (h3 : s'.N = (inv y).N := by rfl) : RoundC inv ok μ x s' :=
  RoundC.mk y h1 h2 h3 (h4 f) (h5 f)
end Go.VC
/- Keys of what is handed over; calls that write what stands in an own row's cells: no statement of a program. -/
set_option linter.unusedSimpArgs false
set_option linter.unusedVariables false
namespace Go.VC
open Go Go.RowKit
section
variable {β : Base} {w w' : World} {ω ω' : Lab} {κ κ' : Nat → Value} {σ σ' : Sto} {P : Program} {s : St} {a : Act}
mutual
theorem Cell.ren_ren {f g : Nat → Nat} (hg : ∀ k, g (f k) = k) : ∀ c : Cell, (c.ren f).ren g = c
  | .rf k o => by simp [Cell.ren, hg]
  | .rv k l o => by simp [Cell.ren, hg]
  | .os k n => by simp [Cell.ren, hg]
  | .ov k n o m => by simp [Cell.ren, hg]
  | .ns k j => by simp [Cell.ren, hg]
  | .mp k => by simp [Cell.ren, hg]
  | .fn f' caps => by simp [Cell.ren, renL_renL hg caps]
  | .im _ | .nl | .ik _ _ _ | .bad => rfl
theorem renL_renL {f g : Nat → Nat} (hg : ∀ k, g (f k) = k) : ∀ l : List Cell, renL g (renL f l) = l
  | [] => rfl
  | c :: r => by simp only [renL, Cell.ren_ren hg c, renL_renL hg r]
end
theorem TV.ren_ren {f g : Nat → Nat} (hg : ∀ k, g (f k) = k) (x : TV) : (x.ren f).ren g = x := by
  cases x with
  | c x => simp only [TV.ren, Cell.ren_ren hg]
  | ag cs => simp only [TV.ren, renL_renL hg]
  | tp ts =>
    simp only [TV.ren, List.map_map]
    congr 1
    conv => rhs; rw [← List.map_id ts]
    refine List.map_congr_left fun y _ => ?_
    cases y <;> simp [Cell.ren_ren hg, renL_renL hg]
theorem Ob.ren_ren {f g : Nat → Nat} (hg : ∀ k, g (f k) = k) (o : Ob) : (o.ren f).ren g = o := by
  cases o with
  | box t cs => simp only [Ob.ren, renL_renL hg]
  | vec => rfl
  | row => rfl
  | map => rfl
  | gl => rfl
theorem renS_renS {f g : Nat → Nat} (hg : ∀ k, g (f k) = k) (σ : Sto) : renS g (renS f σ) = σ := by
  unfold renS
  rw [List.map_map]
  conv => rhs; rw [← List.map_id σ]
  refine List.map_congr_left fun p _ => ?_
  simp [hg, Ob.ren_ren hg]
/-- What is handed over may have any names. -/
theorem FnS.renA {g : FuncId} {ys : List TV} {σ0 σ1 : Sto} {r : TV} (p : Pm) (h : FnS P g σ0 ys σ1 r) : FnS P g (renS p.f σ0) (ys.map (TV.ren p.f)) (renS p.f σ1) (r.ren p.f) := by
  intro w ω κ vs hS hω hvs
  have hS0 : RS w (renW p.g ω) (fun k => κ (p.f k)) σ0 := by
    have := hS.ren (f := p.g) (g := p.f) p.fg
    rwa [renS_renS p.gf] at this
  have hv0 : All2 (RT w (renW p.g ω) (fun k => κ (p.f k)) σ0) ys vs := ⟨by simpa using hvs.1, fun j y v hy hv => by
    have := (hvs.2 j (y.ren p.f) v (by rw [List.getElem?_map, hy]; rfl) hv).ren (f := p.g) (g := p.f) p.fg
    rwa [renS_renS p.gf, TV.ren_ren p.gf] at this⟩
  have hob : ∀ b k, renW p.g ω b = .ob k → (get σ0 k).isSome = true := fun b k hb => by
    unfold renW at hb
    split at hb
    · rename_i k' hk'
      injection hb with hb
      subst hb
      have h1 := hω b k' hk'
      obtain ⟨o, ho⟩ := Option.isSome_iff_exists.1 h1
      obtain ⟨j, rfl⟩ := get_renS' ho
      rw [get_renS p.gf] at ho
      obtain ⟨q, hq, _⟩ := Option.map_eq_some_iff.1 ho
      rw [p.gf, hq]; rfl
    · rename_i l hl; exact (hl k hb).elim
  refine (h w (renW p.g ω) _ vs hS0 hob hv0).mono fun e w' ⟨v, ω', κ', he, ht, hS', hr, hk⟩ => ⟨v, renW p.f ω', fun k => κ' (p.g k), he, ⟨ht.os, ht.tape, ht.output, ht.size, fun b hb hno => ht.block b hb fun k hk' => ?_, fun b hb => renW_im (ht.im b (renW_im hb)), fun b hb hn => ?_⟩, hS'.ren p.gf, hr.ren p.gf, fun k hk' => ?_⟩
  · unfold renW at hk'
    split at hk'
    · rename_i k' hk''; exact hno k' hk''
    · rename_i l hl; exact hl k hk'
  · have h0 : renW p.g ω b = .no := by unfold renW; rw [hn]
    have := ht.no b hb h0
    unfold renW; rw [this]
  · obtain ⟨o, ho⟩ := Option.isSome_iff_exists.1 hk'
    obtain ⟨j, rfl⟩ := get_renS' ho
    rw [get_renS p.gf] at ho
    obtain ⟨q, hq, rfl⟩ := Option.map_eq_some_iff.1 ho
    have hkj := hk j (by rw [hq]; rfl)
    refine ⟨fun hs => by simp only [p.gf]; exact hkj.1 hs, fun o' m' ho' hm' => ?_⟩
    rw [get_renS p.gf] at ho'
    obtain ⟨q', hq', rfl⟩ := Option.map_eq_some_iff.1 ho'
    rw [ren_len] at hm'
    obtain ⟨o1, m1, g1, g2, g3, g4⟩ := hkj.2 q' m' hq' hm'
    exact ⟨o1.ren p.f, m1, by rw [get_renS p.gf, g1]; rfl, by rw [ren_len]; exact g2, g3, fun e => by simp only [p.gf]; exact g4 e⟩

/-! What stands in the cells of an own row is handed over. 'ns': (the callee's key, the cell). -/
def nestS (cs : List IV) : List (Nat × Nat) → Option Sto
  | [] => some []
  | (q, j) :: r => match cs[j]? with
    | some (.sl m ds) => (nestS cs r).map ((q, .row m ds) :: ·)
    | _ => none
def nestB (σ1 : Sto) : List (Nat × Nat) → List IV → Option (List IV)
  | [], cs => some cs
  | (q, j) :: r, cs => match get σ1 q, cs[j]? with
    | some (.row m ds), some (.sl m' _) => if m = m' then nestB σ1 r (cs.set j (.sl m ds)) else none
    | _, _ => none
def qOf : List (Nat × Nat) → Nat → Option Nat
  | [], _ => none
  | (q, j) :: r, i => if i = j then some q else qOf r i
/-- The keys differ, and the cells. -/
def nodN : List (Nat × Nat) → Bool
  | [] => true
  | (q, j) :: r => r.all (fun p => p.1 != q && p.2 != j) && nodN r
def nestC (k : Nat) (ns : List (Nat × Nat)) (cs : List IV) : Cell → Option Cell
  | .im x => some (.im x)
  | .ns k' j => if k' = k then (match qOf ns j, cs[j]? with
    | some q, some (.sl m _) => some (.os q m)
    | _, _ => none) else none
  | _ => none
def nestL (k : Nat) (ns : List (Nat × Nat)) (cs : List IV) : List Cell → Option (List Cell)
  | [] => some []
  | c :: r => (nestC k ns cs c).bind fun d => (nestL k ns cs r).map (d :: ·)
def nestT (k : Nat) (ns : List (Nat × Nat)) (cs : List IV) : List TV → Option (List TV)
  | [] => some []
  | .c x :: r => (nestC k ns cs x).bind fun d => (nestT k ns cs r).map (.c d :: ·)
  | .ag xs :: r => (nestL k ns cs xs).bind fun ds => (nestT k ns cs r).map (.ag ds :: ·)
  | .tp _ :: _ => none
theorem nod_key : ∀ {ns : List (Nat × Nat)}, nodN ns = true → ∀ {q j i : Nat}, (q, j) ∈ ns → (q, i) ∈ ns → j = i
  | [], _, _, _, _, h, _ => by cases h
  | (q0, j0) :: r, hn, q, j, i, h1, h2 => by
    simp only [nodN, Bool.and_eq_true, List.all_eq_true, bne_iff_ne, ne_eq] at hn
    rcases List.mem_cons.1 h1 with e1 | h1
    · rcases List.mem_cons.1 h2 with e2 | h2
      · injection e1 with _ e1; injection e2 with _ e2; rw [e1, e2]
      · injection e1 with e1 _; exact absurd e1 (hn.1 _ h2).1
    · rcases List.mem_cons.1 h2 with e2 | h2
      · injection e2 with e2 _; exact absurd e2 (hn.1 _ h1).1
      · exact nod_key hn.2 h1 h2
theorem nod_cell : ∀ {ns : List (Nat × Nat)}, nodN ns = true → ∀ {q p j : Nat}, (q, j) ∈ ns → (p, j) ∈ ns → q = p
  | [], _, _, _, _, h, _ => by cases h
  | (q0, j0) :: r, hn, q, p, j, h1, h2 => by
    simp only [nodN, Bool.and_eq_true, List.all_eq_true, bne_iff_ne, ne_eq] at hn
    rcases List.mem_cons.1 h1 with e1 | h1
    · rcases List.mem_cons.1 h2 with e2 | h2
      · injection e1 with e1 _; injection e2 with e2 _; rw [e1, e2]
      · injection e1 with _ e1; exact absurd e1 (hn.1 _ h2).2
    · rcases List.mem_cons.1 h2 with e2 | h2
      · injection e2 with _ e2; exact absurd e2 (hn.1 _ h1).2
      · exact nod_cell hn.2 h1 h2
theorem qOf_mem : ∀ {ns : List (Nat × Nat)} {j q : Nat}, qOf ns j = some q → (q, j) ∈ ns
  | [], _, _, h => by cases h
  | (q0, j0) :: r, j, q, h => by
    rw [qOf] at h
    split at h
    · rename_i e; obtain rfl := Option.some.inj h; subst e; exact List.mem_cons_self
    · exact List.mem_cons_of_mem _ (qOf_mem h)
theorem nestS_get {cs : List IV} : ∀ {ns : List (Nat × Nat)} {σ0 : Sto}, nestS cs ns = some σ0 → ∀ {q : Nat} {o : Ob}, get σ0 q = some o → ∃ j m ds, (q, j) ∈ ns ∧ cs[j]? = some (.sl m ds) ∧ o = .row m ds
  | [], σ0, h, q, o, hg => by obtain rfl := Option.some.inj h; cases hg
  | (q0, j0) :: r, σ0, h, q, o, hg => by
    simp only [nestS] at h
    split at h
    · rename_i m ds hj
      obtain ⟨σ1, h1, rfl⟩ := Option.map_eq_some_iff.1 h
      rw [get_cons] at hg
      split at hg
      · rename_i e; subst e; obtain rfl := Option.some.inj hg; exact ⟨j0, m, ds, List.mem_cons_self, hj, rfl⟩
      · obtain ⟨j, m', ds', g1, g2, g3⟩ := nestS_get h1 hg
        exact ⟨j, m', ds', List.mem_cons_of_mem _ g1, g2, g3⟩
    · cases h
theorem nestS_mem {cs : List IV} : ∀ {ns : List (Nat × Nat)} {σ0 : Sto}, nestS cs ns = some σ0 → nodN ns = true → ∀ {q j : Nat}, (q, j) ∈ ns → ∃ m ds, cs[j]? = some (.sl m ds) ∧ get σ0 q = some (.row m ds)
  | [], σ0, h, _, q, j, hm => by cases hm
  | (q0, j0) :: r, σ0, h, hn, q, j, hm => by
    simp only [nestS] at h
    split at h
    · rename_i m ds hj
      obtain ⟨σ1, h1, rfl⟩ := Option.map_eq_some_iff.1 h
      simp only [nodN, Bool.and_eq_true, List.all_eq_true, bne_iff_ne, ne_eq] at hn
      rcases List.mem_cons.1 hm with e | hm
      · injection e with e1 e2; subst e1; subst e2; exact ⟨m, ds, hj, by rw [get_cons, if_pos rfl]⟩
      · obtain ⟨m', ds', g1, g2⟩ := nestS_mem h1 hn.2 hm
        exact ⟨m', ds', g1, by rw [get_cons, if_neg (hn.1 _ hm).1]; exact g2⟩
    · cases h
/-- What the cells are behind the call. -/
theorem nestB_spec {σ1 : Sto} : ∀ {ns : List (Nat × Nat)} {cs cs' : List IV}, nestB σ1 ns cs = some cs' → nodN ns = true → cs'.length = cs.length ∧
    (∀ q j, (q, j) ∈ ns → ∃ m ds ds0, get σ1 q = some (.row m ds) ∧ cs[j]? = some (.sl m ds0) ∧ cs'[j]? = some (.sl m ds)) ∧ ∀ j, (∀ q, (q, j) ∉ ns) → cs'[j]? = cs[j]?
  | [], cs, cs', h, _ => by obtain rfl := Option.some.inj h; exact ⟨rfl, fun _ _ h => (by cases h), fun _ _ => rfl⟩
  | (q0, j0) :: r, cs, cs', h, hn => by
    simp only [nestB] at h
    simp only [nodN, Bool.and_eq_true, List.all_eq_true, bne_iff_ne, ne_eq] at hn
    split at h
    · rename_i m ds m' ds0 hg hj
      split at h
      · rename_i e
        subst e
        obtain ⟨g1, g2, g3⟩ := nestB_spec h hn.2
        have hjl : j0 < cs.length := (List.getElem?_eq_some_iff.1 hj).1
        refine ⟨by simpa using g1, fun q j hm => ?_, fun j hj' => ?_⟩
        · rcases List.mem_cons.1 hm with e | hm
          · injection e with e1 e2
            subst e1; subst e2
            refine ⟨m, ds, ds0, hg, hj, ?_⟩
            rw [g3 j fun p hp => (hn.1 _ hp).2 rfl, List.getElem?_set_self hjl]
          · obtain ⟨m1, d1, d0, k1, k2, k3⟩ := g2 q j hm
            refine ⟨m1, d1, d0, k1, ?_, k3⟩
            rw [List.getElem?_set_ne (fun e => (hn.1 _ hm).2 e.symm)] at k2
            exact k2
        · rw [g3 j fun p hp => hj' p (List.mem_cons_of_mem _ hp), List.getElem?_set_ne fun e => hj' q0 (by subst e; exact List.mem_cons_self)]
      · cases h
    · cases h
theorem nestC_ok {k : Nat} {ns : List (Nat × Nat)} {cs : List IV} {ω0 : Lab} {κ0 : Nat → Value} {σ0 : Sto} (him : ∀ b, ω b = .im → ω0 b = .im ∧ w.heap[b]? = w.heap[b]?)
    (hns : ∀ q j m ds v, (q, j) ∈ ns → cs[j]? = some (.sl m ds) → RC w ω κ σ (.ns k j) v → RC w ω0 κ0 σ0 (.os q m) v) {c d : Cell} {v : Value} (h : nestC k ns cs c = some d) (hc : RC w ω κ σ c v) : RC w ω0 κ0 σ0 d v := by
  cases c with
  | im x =>
    obtain rfl := Option.some.inj h
    cases hc with | im _ _ hx => exact .im _ _ (hx.kept him)
  | ns k' j =>
    simp only [nestC] at h
    split at h
    · rename_i e
      subst e
      split at h
      · rename_i q m ds hq hj
        obtain rfl := Option.some.inj h
        exact hns q j m ds v (qOf_mem hq) hj hc
      · cases h
    · cases h
  | _ => cases h
theorem nestL_ok {k : Nat} {ns : List (Nat × Nat)} {cs : List IV} {ω0 : Lab} {κ0 : Nat → Value} {σ0 : Sto} (H : ∀ {c d : Cell} {v : Value}, nestC k ns cs c = some d → RC w ω κ σ c v → RC w ω0 κ0 σ0 d v) : ∀ {xs ds : List Cell} {vs : List Value}, nestL k ns cs xs = some ds → All2 (RC w ω κ σ) xs vs → All2 (RC w ω0 κ0 σ0) ds vs
  | [], ds, vs, h, hv => by obtain rfl := Option.some.inj h; exact ⟨hv.1, by simp⟩
  | c :: r, ds, [], h, hv => by simp [All2] at hv
  | c :: r, ds, v :: vs, h, hv => by
    simp only [nestL] at h
    obtain ⟨d, hd, h⟩ := Option.bind_eq_some_iff.1 h
    obtain ⟨ds', hds, rfl⟩ := Option.map_eq_some_iff.1 h
    exact .cons (H hd hv.head) (nestL_ok H hds hv.tail)
theorem nestT_ok {k : Nat} {ns : List (Nat × Nat)} {cs : List IV} {ω0 : Lab} {κ0 : Nat → Value} {σ0 : Sto} (H : ∀ {c d : Cell} {v : Value}, nestC k ns cs c = some d → RC w ω κ σ c v → RC w ω0 κ0 σ0 d v) : ∀ {xs ys : List TV} {vs : List Value}, nestT k ns cs xs = some ys → All2 (RT w ω κ σ) xs vs → All2 (RT w ω0 κ0 σ0) ys vs
  | [], ys, vs, h, hv => by obtain rfl := Option.some.inj h; exact ⟨hv.1, by simp⟩
  | x :: r, ys, [], h, hv => by simp [All2] at hv
  | .c x :: r, ys, v :: vs, h, hv => by
    simp only [nestT] at h
    obtain ⟨d, hd, h⟩ := Option.bind_eq_some_iff.1 h
    obtain ⟨ds', hds, rfl⟩ := Option.map_eq_some_iff.1 h
    exact .cons (H hd hv.head) (nestT_ok H hds hv.tail)
  | .ag x :: r, ys, v :: vs, h, hv => by
    simp only [nestT] at h
    obtain ⟨d, hd, h⟩ := Option.bind_eq_some_iff.1 h
    obtain ⟨ds', hds, rfl⟩ := Option.map_eq_some_iff.1 h
    have hx := hv.head
    obtain ⟨us, rfl, h1, h2⟩ := hx
    exact .cons ⟨us, rfl, nestL_ok H hd h1, h2⟩ (nestT_ok H hds hv.tail)
  | .tp _ :: r, ys, v :: vs, h, hv => by cases h
/-- An own row's cells, and what they lead to. -/
theorem row_parts {k n : Nat} {cs : List IV} (h : ObOk w ω κ σ k (.row n cs)) : ∃ (us : Nat → Value) (Ss : Nat → Nat → Prop),
    (∀ j x, cs[j]? = some x → RO w x (us j) (Ss j)) ∧ (∀ i j b, i < cs.length → j < cs.length → i ≠ j → Ss i b → ¬ Ss j b) ∧ (∀ j b, j < cs.length → Ss j b → ω b = .ob k) ∧
    (∀ j b n' c, j < cs.length → κ k = .slice (some ⟨b, 0, none⟩) n' c → w.cell? ⟨b, j, none⟩ = some (us j)) ∧
    (∀ b n' c, κ k = .slice (some ⟨b, 0, none⟩) n' c → 0 < c → ω b = .ob k ∧ ∀ j, j < cs.length → ¬ Ss j b) ∧
    ∀ (w' : World) (ω' : Lab) (κ' : Nat → Value) (σ' : Sto) (cs' : List IV) (Ts : Nat → Nat → Prop), cs'.length = cs.length → (∀ j x, cs'[j]? = some x → RO w' x (us j) (Ts j)) →
      (∀ i j b, i < cs.length → j < cs.length → i ≠ j → Ts i b → ¬ Ts j b) → (∀ j b, j < cs.length → Ts j b → ω' b = .ob k) → (∀ j b, j < cs.length → Ts j b → w.heap.size ≤ b ∨ ∃ i, i < cs.length ∧ Ss i b) →
      (∀ b, ω b = .ob k → ω' b = .ob k) → (∀ b, ω b = .ob k → (∀ j, j < cs.length → ¬ Ss j b) → w'.heap[b]? = w.heap[b]?) → κ' k = κ k → ObOk w' ω' κ' σ' k (.row n cs') := by
  obtain ⟨S, hR, hlab⟩ := h
  generalize hkv : κ k = kv at hR
  cases hR with
  | z a S hS =>
    refine ⟨fun _ => undef, fun _ _ => False, by simp, by simp, by simp, by simp, fun b n' c e hc => ?_, fun w' ω' κ' σ' cs' Ts hl _ _ _ _ _ _ hκ => ?_⟩
    · injection e with _ _ e; omega
    · obtain rfl : cs' = [] := List.eq_nil_of_length_eq_zero hl
      exact ⟨fun _ => False, by rw [hκ]; exact .z _ _ (fun _ h => h), fun _ h => h.elim⟩
  | sl _ c g t arr _ Ss _ hheap hc hnc hcm hsz h1 h2 h3 h4 =>
    have hg : ω g = .ob k := hlab g ((h4 g).2 (.inl rfl))
    refine ⟨fun j => arr.getD j undef, Ss, h1, h3, fun j b hj hb => hlab b ((h4 b).2 (.inr ⟨j, hj, hb⟩)), fun j b n' c' hj he => ?_, fun b n' c' he hc' => ?_, fun w' ω' κ' σ' cs' Ts hl g1 g2 g3 g4 g5 g6 hκ => ?_⟩
    · injection he with e1 _ _
      injection e1 with e1
      injection e1 with e1
      subst e1
      rw [cell_row hheap]
      have : j < arr.size := by omega
      simp [Array.getD, this]
    · injection he with e1 _ _
      injection e1 with e1
      injection e1 with e1
      subst e1
      exact ⟨hg, h2⟩
    · refine ⟨fun b => b = g ∨ ∃ j, j < cs'.length ∧ Ts j b, ?_, fun b hb => ?_⟩
      · rw [hκ]
        refine .sl n c g t arr cs' Ts _ ((g6 g hg h2).trans hheap) hc hnc hcm (by omega) g1 (fun j hj hb => ?_) (fun i j b hi hj => g2 i j b (by omega) (by omega)) fun _ => Iff.rfl
        rcases g4 j g (by omega) hb with h | ⟨i, hi, h⟩
        · have : g < w.heap.size := (Array.getElem?_eq_some_iff.1 hheap).1
          omega
        · exact h2 i hi h
      · rcases hb with rfl | ⟨j, hj, hb⟩
        · exact g5 _ hg
        · exact g3 j b (by omega) hb
theorem RO_sl {m : Nat} {ds : List IV} {v : Value} {S : Nat → Prop} (h : RO w (.sl m ds) v S) : ∃ ad c, v = .slice ad m c ∧ m ≤ c ∧ (ad = none → c = 0) := by
  cases h with
  | z a => exact ⟨a, 0, rfl, Nat.le_refl _, fun _ => rfl⟩
  | sl _ c g => exact ⟨_, c, rfl, by assumption, fun h => by cases h⟩
/-- **A call that writes what stands in the cells of an own row**, and returns a scalar. -/
theorem CallG.nest {g d k n : Nat} (ns : List (Nat × Nat)) {xs ys : List TV} {cs cs' : List IV} {σ0 σ1 : Sto} {r : TV} {K : St → Prop} {t : Tg K} (hf : FnS P g σ0 ys σ1 r) (hk : get s.σ k = some (.row n cs)) (h0 : nestS cs ns = some σ0) (hn : nodN ns = true)
    (hx : nestT k ns cs xs = some ys) (h1 : nestB σ1 ns cs = some cs') (hr' : pureT r = true ∧ r.keys = []) (hd : d < s.N) (hK : K ⟨s.N, (d, r) :: s.E, upd s.σ k (.row n cs')⟩) : CallG P s g xs d K t := by
  intro β ω κ a w vs hr hv
  obtain ⟨us, Ss, p1, p2, p3, p4, p6, p5⟩ := row_parts (hr.rs.ob k _ hk)
  have jl : ∀ {q j}, (q, j) ∈ ns → j < cs.length := fun h => by
    obtain ⟨m, ds, g1, _⟩ := nestS_mem h0 hn h
    exact (List.getElem?_eq_some_iff.1 g1).1
  classical
  obtain ⟨ω0, ω0_in, ω0_ob, ω0_im, ω0_out⟩ : ∃ ω0 : Lab, (∀ q j b, (q, j) ∈ ns → Ss j b → ω0 b = .ob q) ∧ (∀ q b, ω0 b = .ob q → ∃ j, (q, j) ∈ ns ∧ Ss j b) ∧ (∀ b, ω b = .im ↔ ω0 b = .im) ∧ ∀ b, ω b ≠ .im → (∀ q j, (q, j) ∈ ns → ¬ Ss j b) → ω0 b = .no := by
    refine ⟨fun b => if h : ∃ q, ∃ j, (q, j) ∈ ns ∧ Ss j b then .ob h.choose else match ω b with | .im => .im | _ => .no, fun q j b hm hb => ?_, fun q b hb => ?_, fun b => ?_, fun b hb hno => ?_⟩
    · have h : ∃ q, ∃ j, (q, j) ∈ ns ∧ Ss j b := ⟨q, j, hm, hb⟩
      simp only [dif_pos h]
      obtain ⟨j', g1, g2⟩ := h.choose_spec
      have : j' = j := Classical.byContradiction fun e => p2 j' j b (jl g1) (jl hm) e g2 hb
      subst this
      rw [nod_cell hn g1 hm]
    · simp only at hb
      split at hb
      · rename_i h
        injection hb with hb
        obtain ⟨j', g1, g2⟩ := h.choose_spec
        rw [hb] at g1
        exact ⟨j', g1, g2⟩
      · split at hb <;> cases hb
    · constructor
      · intro hb
        have h : ¬ ∃ q, ∃ j, (q, j) ∈ ns ∧ Ss j b := fun ⟨q, j, g1, g2⟩ => by rw [p3 j b (jl g1) g2] at hb; cases hb
        simp only [dif_neg h, hb]
      · intro hb
        simp only at hb
        split at hb
        · cases hb
        · split at hb
          · assumption
          · cases hb
    · have h : ¬ ∃ q, ∃ j, (q, j) ∈ ns ∧ Ss j b := fun ⟨q, j, g1, g2⟩ => hno q j g1 g2
      simp only [dif_neg h]
  obtain ⟨κ0, κ0_in⟩ : ∃ κ0 : Nat → Value, ∀ q j, (q, j) ∈ ns → κ0 q = us j := by
    refine ⟨fun q => if h : ∃ j, (q, j) ∈ ns then us h.choose else undef, fun q j hm => ?_⟩
    have h : ∃ j, (q, j) ∈ ns := ⟨j, hm⟩
    simp only [dif_pos h]
    rw [nod_key hn h.choose_spec hm]
  have ω0_no : ∀ b, ω b = .no → ω0 b = .no := fun b hb => ω0_out b (by rw [hb]; simp) fun q j g1 g2 => by rw [p3 j b (jl g1) g2] at hb; cases hb
  have hRS : RS w ω0 κ0 σ0 := ⟨fun q o hg => by
    obtain ⟨j, m, ds, g1, g2, rfl⟩ := nestS_get h0 hg
    exact ⟨Ss j, by rw [κ0_in q j g1]; exact p1 j _ g2, fun b hb => ω0_in q j b g1 hb⟩, fun b hb => hr.rs.dom b fun e => hb (ω0_no b e)⟩
  have hargs : All2 (RT w ω0 κ0 σ0) ys vs := nestT_ok (nestC_ok (fun b hb => ⟨(ω0_im b).1 hb, rfl⟩) fun q j m ds v hm hj hc => by
    cases hc with
    | ns _ _ _ hh =>
      obtain ⟨b, n', c, e1, _, e3⟩ := hh _ n hk rfl
      have h2 := p4 j b n' c (jl hm) e1
      rw [e3] at h2
      obtain rfl := Option.some.inj h2
      obtain ⟨ad, c', e, h3, h4⟩ := RO_sl (p1 j _ hj)
      rw [e]
      refine .os q m ad c' h3 h4 fun o l ho hl => ?_
      obtain ⟨m', ds', g1, g2⟩ := nestS_mem h0 hn hm
      rw [g2] at ho
      obtain rfl := Option.some.inj ho
      rw [hj] at g1
      injection g1 with g1; injection g1 with g1 _
      obtain rfl := Option.some.inj hl
      exact ⟨by omega, fun _ => by rw [κ0_in q j hm, e]⟩) hx hv
  refine (hf w ω0 κ0 vs hRS (fun b q hb => by
    obtain ⟨j, g1, _⟩ := ω0_ob q b hb
    obtain ⟨m, ds, _, g⟩ := nestS_mem h0 hn g1
    rw [g]; rfl) hargs).mono fun e w' ⟨v, ωc, κc, he, ht, hS, hrv, hkc⟩ => ⟨v, he, _, hK, ?_⟩
  obtain ⟨n1, n2, n3⟩ := nestB_spec h1 hn
  -- the labels behind the call
  obtain ⟨ωf, f_old, f_new, f_no⟩ : ∃ ωf : Lab, (∀ b, ω b ≠ .no → ωf b = ω b) ∧ (∀ b q, ω b = .no → w.heap.size ≤ b → ωc b = .ob q → ωf b = .ob k) ∧ ∀ b, ω b = .no → (b < w.heap.size ∨ ∀ q, ωc b ≠ .ob q) → ωf b = .no := by
    refine ⟨fun b => match ω b with | .no => if b < w.heap.size then .no else (match ωc b with | .ob _ => .ob k | _ => .no) | l => l, fun b hb => ?_, fun b q hb hs hq => ?_, fun b hb hor => ?_⟩
    · cases hw : ω b with
      | no => exact absurd hw hb
      | im => simp only [hw]
      | ob i => simp only [hw]
    · simp only [hb, if_neg (Nat.not_lt.2 hs), hq]
    · simp only [hb]
      split
      · rfl
      · rename_i hlt
        split
        · rename_i q hq; rcases hor with h | h
          · exact absurd h hlt
          · exact absurd hq (h q)
        · rfl
  have same : ∀ b, b < w.heap.size → (∀ q j, (q, j) ∈ ns → ¬ Ss j b) → w'.heap[b]? = w.heap[b]? := fun b hb hno => ht.block b hb fun q hq => by
    obtain ⟨j, g1, g2⟩ := ω0_ob q b hq
    exact hno q j g1 g2
  have him : ∀ b, ω b = .im → ωf b = .im ∧ w'.heap[b]? = w.heap[b]? := fun b hb => ⟨by rw [f_old b (by rw [hb]; simp), hb], same b (hr.rs.dom b (by rw [hb]; simp)) fun q j g1 g2 => by rw [p3 j b (jl g1) g2] at hb; cases hb⟩
  have other : ∀ b i, ω b = .ob i → i ≠ k → w'.heap[b]? = w.heap[b]? := fun b i hb hi => same b (hr.rs.dom b (by rw [hb]; simp)) fun q j g1 g2 => by
    rw [p3 j b (jl g1) g2] at hb; injection hb with hb; exact hi hb.symm
  have f_ob : ∀ b i, ω b = .ob i → ωf b = .ob i := fun b i hb => by rw [f_old b (by rw [hb]; simp), hb]
  have hin : ∀ q b, ωc b = .ob q → ωf b = .ob k ∧ (w.heap.size ≤ b ∨ ∃ i, i < cs.length ∧ Ss i b) := fun q b hq => by
    by_cases hb : ∃ p j, (p, j) ∈ ns ∧ Ss j b
    · obtain ⟨p, j, g1, g2⟩ := hb
      exact ⟨f_ob b k (p3 j b (jl g1) g2), .inr ⟨j, jl g1, g2⟩⟩
    · have hb' : ∀ p j, (p, j) ∈ ns → ¬ Ss j b := fun p j g1 g2 => hb ⟨p, j, g1, g2⟩
      cases hw : ω b with
      | im => have := ht.im b ((ω0_im b).1 hw); rw [hq] at this; cases this
      | ob i => have := ht.no b (hr.rs.dom b (by rw [hw]; simp)) (ω0_out b (by rw [hw]; simp) hb'); rw [hq] at this; cases this
      | no =>
        by_cases hlt : b < w.heap.size
        · have := ht.no b hlt (ω0_no b hw); rw [hq] at this; cases this
        · exact ⟨f_new b q hw (by omega) hq, .inl (by omega)⟩
  have hT : ∀ j, ∃ T : Nat → Prop, (∀ x, cs'[j]? = some x → RO w' x (us j) T) ∧ ((∃ q, (q, j) ∈ ns ∧ ∀ b, T b → ωc b = .ob q) ∨ ((∀ q, (q, j) ∉ ns) ∧ T = Ss j)) := fun j => by
    by_cases h : ∃ q, (q, j) ∈ ns
    · obtain ⟨q, hm⟩ := h
      obtain ⟨m, ds, ds0, g1, g2, g3⟩ := n2 q j hm
      obtain ⟨S', h3, h4⟩ := hS.ob q _ g1
      obtain ⟨m0, ds1, g4, g5⟩ := nestS_mem h0 hn hm
      rw [g2] at g4
      injection g4 with g4; injection g4 with g4 g4'
      obtain ⟨o, m1, k1, k2, k3, k4⟩ := (hkc q (by rw [g5]; rfl)).2 _ m g1 rfl
      rw [g5] at k1
      obtain rfl := Option.some.inj k1
      obtain rfl := Option.some.inj k2
      have hκ : κc q = us j := by rw [k4 g4.symm, κ0_in q j hm]
      rw [hκ] at h3
      refine ⟨S', fun x hx => ?_, .inl ⟨q, hm, h4⟩⟩
      rw [g3] at hx
      obtain rfl := Option.some.inj hx
      exact h3
    · have h' : ∀ q, (q, j) ∉ ns := fun q hq => h ⟨q, hq⟩
      refine ⟨Ss j, fun x hx => ?_, .inr ⟨h', rfl⟩⟩
      rw [n3 j h'] at hx
      have hj := (List.getElem?_eq_some_iff.1 hx).1
      refine (p1 j x hx).kept fun b hb => same b (hr.rs.dom b (by rw [p3 j b hj hb]; simp)) fun q i g1 g2 => ?_
      exact p2 i j b (jl g1) hj (fun e => h' q (by rw [← e]; exact g1)) g2 hb
  obtain ⟨Ts, hTs⟩ := Classical.axiomOfChoice hT
  have hout : ∀ j b, j < cs.length → (∀ q, (q, j) ∉ ns) → Ss j b → ωc b = .no := fun j b hj hno hb =>
    ht.no b (hr.rs.dom b (by rw [p3 j b hj hb]; simp)) (ω0_out b (by rw [p3 j b hj hb]; simp) fun q i g1 g2 => p2 i j b (jl g1) hj (fun e => hno q (by rw [← e]; exact g1)) g2 hb)
  have hsome : (get s.σ k).isSome = true := by rw [hk]; rfl
  have hkey : ∀ i, KeyOk κ s.σ κ (upd s.σ k (.row n cs')) i := fun i => ⟨fun _ => rfl, fun o' m' ho hm => by
    rw [get_upd _ _ _ _ hsome] at ho
    split at ho
    · rename_i e
      subst e
      obtain rfl := Option.some.inj ho
      exact ⟨_, m', hk, hm, Nat.le_refl _, fun _ => rfl⟩
    · exact ⟨o', m', ho, hm, Nat.le_refl _, fun _ => rfl⟩⟩
  have hobk : ObOk w' ωf κ (upd s.σ k (.row n cs')) k (.row n cs') := by
    refine p5 w' ωf κ _ cs' Ts n1 (fun j x hx => (hTs j).1 x hx) (fun i j b hi hj hij h1 h2 => ?_) (fun j b hj hb => ?_) (fun j b hj hb => ?_) (fun b hb => f_ob b k hb) (fun b hb hno => same b (hr.rs.dom b (by rw [hb]; simp)) fun q j g1 => hno j (jl g1)) rfl
    · rcases (hTs i).2 with ⟨q, g1, g2⟩ | ⟨g1, g2⟩
      · rcases (hTs j).2 with ⟨q', g3, g4⟩ | ⟨g3, g4⟩
        · have e1 := g2 b h1
          rw [g4 b h2] at e1
          injection e1 with e1
          subst e1
          exact hij (nod_key hn g1 g3)
        · rw [g4] at h2
          have e1 := hout j b hj g3 h2
          rw [g2 b h1] at e1; cases e1
      · rw [g2] at h1
        rcases (hTs j).2 with ⟨q', g3, g4⟩ | ⟨g3, g4⟩
        · have e1 := hout i b hi g1 h1
          rw [g4 b h2] at e1; cases e1
        · rw [g4] at h2; exact p2 i j b hi hj hij h1 h2
    · rcases (hTs j).2 with ⟨q, g1, g2⟩ | ⟨g1, g2⟩
      · exact (hin q b (g2 b hb)).1
      · rw [g2] at hb; exact f_ob b k (p3 j b hj hb)
    · rcases (hTs j).2 with ⟨q, g1, g2⟩ | ⟨g1, g2⟩
      · exact (hin q b (g2 b hb)).2
      · rw [g2] at hb; exact .inr ⟨j, hj, hb⟩
  have hrs : RS w' ωf κ (upd s.σ k (.row n cs')) := by
    refine ⟨fun i o ho => ?_, fun b hb => ?_⟩
    · rw [get_upd _ _ _ _ hsome] at ho
      split at ho
      · rename_i e
        subst e
        obtain rfl := Option.some.inj ho
        exact hobk
      · rename_i hi
        exact (hr.rs.ob i o ho).step rfl (fun b hb => ⟨f_ob b i hb, other b i hb hi⟩) him fun _ _ _ i _ => hkey i
    · by_cases hw : ω b = .no
      · by_cases hc : b < w.heap.size ∨ ∀ q, ωc b ≠ .ob q
        · exact absurd (f_no b hw hc) hb
        · have hc2 : ¬ ∀ q, ωc b ≠ .ob q := fun h => hc (.inr h)
          refine hS.dom b fun e => hc2 fun q hq => ?_
          rw [e] at hq; cases hq
      · exact Nat.lt_of_lt_of_le (hr.rs.dom b hw) ht.size
  have hrel : Rel β ωf κ ⟨s.N, s.E, upd s.σ k (.row n cs')⟩ a w' := by
    refine ⟨hr.turn.trans ⟨ht.os, ht.tape, ht.output, ht.size, fun b hb hno => same b hb fun q j g1 g2 => hno k (p3 j b (jl g1) g2), fun b hb => (him b hb).1, fun b hb hno => f_no b hno (.inl hb)⟩, fun i hi => (hr.keys i hi).trans (hkey i), hr.odd, hr.defers, hr.size, fun t x hx => ⟨(hr.env t x hx).1, (hr.env t x hx).2.step ⟨him, fun i _ => hkey i, fun i _ o' m' ho hm => ?_⟩⟩, hrs⟩
    rw [get_upd _ _ _ _ hsome] at ho
    split at ho
    · rename_i e
      subst e
      obtain rfl := Option.some.inj ho
      refine ⟨⟨_, m', hk, hm⟩, rfl, fun b n' c hv hc => ?_⟩
      obtain ⟨g1, g2⟩ := p6 b n' c hv hc
      exact same b (hr.rs.dom b (by rw [g1]; simp)) fun q j g3 => g2 j (jl g3)
    · rename_i hi
      refine ⟨⟨o', m', ho, hm⟩, rfl, fun b n' c hv hc => other b i ?_ hi⟩
      have hob := hr.rs.ob i o' ho
      cases o' with
      | box => cases hm
      | map => cases hm
      | gl => cases hm
      | vec t' e' n' cs own =>
        obtain ⟨_, xs, _, h3, _⟩ := hob
        exact h3 b (by rw [hv, rowB_some hc])
      | row n' cs =>
        obtain ⟨S, h3, h4⟩ := hob
        rw [hv] at h3
        cases h3 with
        | z => omega
        | sl _ _ _ _ _ _ _ _ _ _ _ _ _ _ _ _ h5 => exact h4 b ((h5 b).2 (.inl rfl))
  have hrv' : RT w' ωf κ (upd s.σ k (.row n cs')) r v := hrv.stepP hr'.1 fun i hi => by
    have := hasT_keys i r hi
    rw [hr'.2] at this; cases this
  exact ⟨_, _, hrel.put hd hrv'⟩
end
end Go.VC
/- Own results as rows, under any names; rows that are handed over: no statement of a program. -/
set_option linter.unusedSimpArgs false
set_option linter.unusedVariables false
namespace Go.VC
open Go Go.RowKit
section
variable {w w' : World} {ω ω' : Lab} {κ κ' : Nat → Value} {σ σ' : Sto} {P : Program} {s : St}
def rowO : Ob → Ob
  | .vec _ _ n cs true => .row n cs
  | o => o
def rowS (σ : Sto) : Sto := σ.map fun p => (p.1, rowO p.2)
theorem rowO_len (o : Ob) : (rowO o).len? = o.len? := by
  cases o with
  | vec t e n cs own => cases own <;> rfl
  | _ => rfl
theorem get_rowS : ∀ (σ : Sto) (k : Nat), get (rowS σ) k = (get σ k).map rowO
  | [], _ => rfl
  | (j, o) :: r, k => by
    show get ((j, rowO o) :: rowS r) k = _
    rw [get_cons, get_cons]
    split
    · rfl
    · exact get_rowS r k
theorem rowS_key (k : Nat) : KeyOk κ σ κ (rowS σ) k := ⟨fun _ => rfl, fun o' m' ho hm => by
  rw [get_rowS] at ho
  obtain ⟨o, h1, rfl⟩ := Option.map_eq_some_iff.1 ho
  rw [rowO_len] at hm
  exact ⟨o, m', h1, hm, Nat.le_refl _, fun _ => rfl⟩⟩
theorem rowS_over : Over w ω κ σ w ω κ (rowS σ) (fun _ => True) (fun _ => True) := ⟨fun b hb => ⟨hb, rfl⟩, fun k _ => rowS_key k, fun k _ o' m' ho hm => by
  rw [get_rowS] at ho
  obtain ⟨o, h1, rfl⟩ := Option.map_eq_some_iff.1 ho
  rw [rowO_len] at hm
  exact ⟨⟨o, m', h1, hm⟩, rfl, fun _ _ _ _ _ => rfl⟩⟩
/-- Own results are taken as rows of a fixed length. -/
theorem FnS.rows {g : FuncId} {σ0 σ1 : Sto} {ys : List TV} {r : TV} (h : FnS P g σ0 ys σ1 r) : FnS P g σ0 ys (rowS σ1) r := by
  intro w ω κ vs hS hω hvs
  refine (h w ω κ vs hS hω hvs).mono fun e w' ⟨v, ω', κ', he, ht, hS', hr, hk⟩ => ⟨v, ω', κ', he, ht, ⟨fun k o ho => ?_, hS'.dom⟩, hr.step (rowS_over.sub (fun _ _ => trivial) fun _ _ => trivial), fun k hk' => (hk k hk').trans (rowS_key k)⟩
  rw [get_rowS] at ho
  obtain ⟨o', h1, rfl⟩ := Option.map_eq_some_iff.1 ho
  have hob := hS'.ob k o' h1
  have hst : ObOk w' ω' κ' (rowS σ1) k o' := hob.step rfl (fun b hb => ⟨hb, rfl⟩) (fun b hb => ⟨hb, rfl⟩) fun _ _ _ i _ => rowS_key i
  cases o' with
  | vec t e n cs own =>
    cases own with
    | false => exact hst
    | true =>
      obtain ⟨S, h2, h3⟩ := vec_RO hob
      exact ⟨S, h2, h3⟩
  | box t cs => exact hst
  | row n cs => exact hst
  | map d f => exact hst
  | gl d f => exact hst
/-- A result under other names. -/
theorem FnS.as {g : FuncId} {σ0 σ1 σ1' : Sto} {ys : List TV} {r r' : TV} (h : FnS P g σ0 ys σ1 r) (h1 : σ1 = σ1') (h2 : r = r') : FnS P g σ0 ys σ1' r' := by subst h1; subst h2; exact h
theorem FnS.asA {g : FuncId} {σ0 σ1 σ0' σ1' : Sto} {ys ys' : List TV} {r r' : TV} (h : FnS P g σ0 ys σ1 r) (h0 : σ0 = σ0') (hy : ys = ys') (h1 : σ1 = σ1') (h2 : r = r') : FnS P g σ0' ys' σ1' r' := by subst h0; subst hy; subst h1; subst h2; exact h
theorem pml : ∀ (ss ts : List Nat), ss.Nodup → ts.Nodup → ss.length = ts.length → ∃ p : Pm, ss.map p.f = ts
  | [], [], _, _, _ => ⟨Pm.sw 0 0, rfl⟩
  | [], _ :: _, _, _, h => by simp at h
  | _ :: _, [], _, _, h => by simp at h
  | s :: ss, t :: ts, h1, h2, h3 => by
    obtain ⟨p, hp⟩ := pml ss ts (List.nodup_cons.1 h1).2 (List.nodup_cons.1 h2).2 (by simpa using h3)
    refine ⟨p.then (Pm.sw (p.f s) t), ?_⟩
    rw [List.map_cons]
    congr 1
    · simp [Pm.then, Pm.sw, swp]
    · rw [← hp]
      refine List.map_congr_left fun x hx => ?_
      have n1 : p.f x ≠ p.f s := fun e => (List.nodup_cons.1 h1).1 (by rw [← p.gf s, ← e, p.gf]; exact hx)
      have n2 : p.f x ≠ t := fun e => (List.nodup_cons.1 h2).1 (by rw [← e, ← hp]; exact List.mem_map_of_mem hx)
      simp [Pm.then, Pm.sw, swp, n1, n2]
/-- A nil slice in a result is taken for an own row without elements. -/
theorem FnS.nl {g : FuncId} {σ0 σ1 : Sto} {ys : List TV} {cs : List Cell} (h : FnS P g σ0 ys σ1 (.ag cs)) (i q : Nat) (hi : cs[i]? = some .nl) (h1 : (get σ1 q).isSome = false) (h0 : (get σ0 q).isSome = false) (hc : hasL q cs = false) (hs : noS q σ1 = true) :
    FnS P g σ0 ys ((q, .row 0 []) :: σ1) (.ag (cs.set i (.os q 0))) := by
  intro w ω κ vs hS hω hvs
  refine (h w ω κ vs hS hω hvs).mono fun e w' ⟨v, ω', κ', he, ht, hS', hr, hk⟩ => ?_
  have hne : ∀ k, (get σ1 k).isSome = true → k ≠ q := fun k hk' e => by rw [e, h1] at hk'; cases hk'
  have hkey : ∀ k, k ≠ q → KeyOk κ' σ1 (setK κ' q (.slice none 0 0)) ((q, .row 0 []) :: σ1) k := fun k hkq => ⟨fun _ => setK_ne κ' _ hkq, fun o' m' ho hm => by
    rw [get_cons, if_neg hkq] at ho
    exact ⟨o', m', ho, hm, Nat.le_refl _, fun _ => setK_ne κ' _ hkq⟩⟩
  have him : ∀ b, ω' b = .im → ω' b = .im ∧ w'.heap[b]? = w'.heap[b]? := fun b hb => ⟨hb, rfl⟩
  have hover : ∀ c : Cell, c.has q = false → ∀ u, RC w' ω' κ' σ1 c u → RC w' ω' (setK κ' q (.slice none 0 0)) ((q, .row 0 []) :: σ1) c u := fun c hcq u hu =>
    hu.step ⟨him, fun k hk' => hkey k (fun e => by rw [e, hcq] at hk'; cases hk'), fun k hk' o' m' ho hm => by
      have hkq : k ≠ q := fun e => by have := hasN_has k c hk'; rw [e, hcq] at this; cases this
      rw [get_cons, if_neg hkq] at ho
      exact ⟨⟨o', m', ho, hm⟩, setK_ne κ' _ hkq, fun _ _ _ _ _ => rfl⟩⟩
  refine ⟨v, ω', setK κ' q (.slice none 0 0), he, ht, ⟨fun k o ho => ?_, hS'.dom⟩, ?_, fun k hk' => (hk k hk').trans (hkey k fun e => by rw [e, h0] at hk'; cases hk')⟩
  · rw [get_cons] at ho
    split at ho
    · rename_i e
      subst e
      obtain rfl := Option.some.inj ho
      exact ⟨fun _ => False, by rw [setK_eq]; exact .z none _ fun _ h => h, fun _ h => h.elim⟩
    · rename_i hkq
      refine (hS'.ob k o ho).step (setK_ne κ' _ hkq) (fun b hb => ⟨hb, rfl⟩) him fun t cs' e j hj => hkey j fun e' => ?_
      subst e; subst e'
      rw [noS_get hs ho] at hj; cases hj
  · obtain ⟨us, rfl, g1, g2⟩ := hr
    refine ⟨us, rfl, ⟨by simpa using g1.1, fun j x u hx hu => ?_⟩, g2⟩
    rw [List.getElem?_set] at hx
    split at hx
    · rename_i e
      subst e
      split at hx
      · obtain rfl := Option.some.inj hx
        have := g1.2 i _ u hi hu
        cases this
        exact .os q 0 none 0 (Nat.le_refl _) (fun _ => rfl) fun o m ho hm => by
          rw [get_cons, if_pos rfl] at ho
          obtain rfl := Option.some.inj ho
          obtain rfl := Option.some.inj hm
          exact ⟨Nat.le_refl _, fun _ => setK_eq κ' q _⟩
      · cases hx
    · refine hover x ?_ u (g1.2 j x u hx hu)
      cases hxq : x.has q with
      | false => rfl
      | true => rw [hasL_mem hx hxq] at hc; cases hc
/-- A call to which own rows are handed over. -/
theorem CallG.own {g d : Nat} {xs : List TV} {σ0 σ1 : Sto} {r : TV} {K : St → Prop} {t : Tg K} (hf : FnS P g σ0 xs σ1 r) (hsub : subS s.σ σ0) (hki : keysIn σ0 σ1 r.keys = true) (hks : keysInS σ0 σ1 σ1 = true) (hfr : freshB s σ0 σ1 = true) (hnn : nnAll s σ0 = true) (hd : d < s.N)
    (hK : K ⟨s.N, (d, r) :: s.E, backS s.σ σ0 σ1⟩) : CallG P s g xs d K t :=
  CallG.by (σa := []) (l := .no) hf (subS_ok hsub) (.inr rfl) (fun k o h => by rw [get_nil] at h; cases h) (by
    clear hf hK hd
    induction xs with
    | nil => trivial
    | cons x r ih => exact ⟨.inl rfl, ih⟩) hki hks hfr hnn hd hK
theorem CallG.ownE {g d : Nat} {xs ys : List TV} {σ0 σ1 : Sto} {r : TV} {K : St → Prop} {t : Tg K} (hf : FnS P g σ0 ys σ1 r) (hx : xs = ys) (hsub : subS s.σ σ0) (hki : keysIn σ0 σ1 r.keys = true) (hks : keysInS σ0 σ1 σ1 = true) (hfr : freshB s σ0 σ1 = true) (hnn : nnAll s σ0 = true) (hd : d < s.N)
    (hK : K ⟨s.N, (d, r) :: s.E, backS s.σ σ0 σ1⟩) : CallG P s g xs d K t := by subst hx; exact CallG.own hf hsub hki hks hfr hnn hd hK
/-- Where a nested row stands. -/
structure Nsk (k q j : Nat) : Prop where
/-- The nested row is handed over; what the callee makes of it stands in its place. -/
def nestP (s : St) (k q j d : Nat) (xs ys : List TV) (σ0 σ1 : Sto) (r : TV) (K : St → Prop) (_ : Tg K) : Prop := match get s.σ k with
  | some (.row n cs) => match nestS cs [(q, j)], nestT k [(q, j)] cs xs, nestB σ1 [(q, j)] cs with
    | some σ0', some ys', some cs' => σ0' = σ0 ∧ ys' = ys ∧ K ⟨s.N, (d, r) :: s.E, upd s.σ k (.row n cs')⟩
    | _, _, _ => False
  | _ => False
theorem CallG.nest1 {g d k q j : Nat} (_ : Nsk k q j) {xs ys : List TV} {σ0 σ1 : Sto} {r : TV} {K : St → Prop} {t : Tg K} (hf : FnS P g σ0 ys σ1 r) (hr' : pureT r = true ∧ r.keys = []) (hd : d < s.N) (h : nestP s k q j d xs ys σ0 σ1 r K t) : CallG P s g xs d K t := by
  unfold nestP at h
  split at h
  · rename_i n cs hk
    split at h
    · rename_i σ0' ys' cs' h0 hx h1
      obtain ⟨rfl, rfl, hK⟩ := h
      exact CallG.nest [(q, j)] hf hk h0 rfl hx h1 hr' hd hK
    · exact h.elim
  · exact h.elim
/-- A call that is handed over own rows. -/
theorem CalO {F C G R : Prop} (f : F) (c : C) (r : R) (d : F → C → Bx R → G := by
      intro fx cx rx
      (first
        | refine CallG.ownE cx ?_ ?_ ?_ ?_ ?_ ?_ (by simp only [Nat.reduceLT]) ?_
        | refine CallQ.gl cx ?_ ?_ ?_) <;> ((try simp -dsimp (maxSteps := 2000000) (disch := omega) only [vs, ↓Option.bind_some, ev1, ofV, scalarB, Kn, Kb, calleeOf, evLoad, ptr, evField, evFieldAddr, shift, ↓pt_at, ↓pt_at1, evExtract, evBin, evLen, evConv, cellsT, noS, Cell.has, Cell.hasN, Cell.anyN, toIV, toIV0, toIVs, ownC, srcM, Ob.own, Ob.esz, allSc, nilK, lenC, ownCell, isPtr, ptrNil, frzO, Cell.frz, Cell.keys, ↓reduceIte, reduceCtorEq, Nat.reduceEqDiff, Nat.reduceBEq, Nat.reduceBNe, Nat.reduceAdd, Nat.reduceMul, Nat.reduceSub, Nat.reduceLT, Nat.reduceLeDiff, Nat.reducePow, Int.reduceLT, Int.reduceLE, Int.reduceEq, Int.reduceNe, quietB, Nat.reduceMod, Int.reduceToNat, ne_eq, eq_self, exists_const, evBytes, byRow, byL, byStr_size, ifsz, ByteArray.size_append, Option.none_or, Option.some_or, evLook, keyD, backS, nnAll, nestP, nestS, nestT, nestL, nestC, nestB, qOf, List.set_cons_zero, List.set_cons_succ, fcx, fx]) <;> first | trivial | (with_reducible rfl) | exact rx.h)) : G := d f c ⟨r⟩
/-- A call that writes what stands in an own row's cell. -/
theorem CalN {F C G R : Prop} {k q j : Nat} (n : Nsk k q j) (f : F) (c : C) (r : R) (d : Nsk k q j → F → C → Bx R → G := by
      intro nx fx cx rx
      refine CallG.nest1 nx cx (by first | exact ⟨rfl, rfl⟩ | simp) (by simp only [Nat.reduceLT]) ?_
      simp -dsimp (maxSteps := 2000000) (disch := omega) only [vs, ↓Option.bind_some, ev1, ofV, scalarB, Kn, Kb, calleeOf, evLoad, ptr, evField, evFieldAddr, shift, ↓pt_at, ↓pt_at1, evExtract, evBin, evLen, evConv, cellsT, noS, Cell.has, Cell.hasN, Cell.anyN, toIV, toIV0, toIVs, ownC, srcM, Ob.own, Ob.esz, allSc, nilK, lenC, ownCell, isPtr, ptrNil, frzO, Cell.frz, Cell.keys, ↓reduceIte, reduceCtorEq, Nat.reduceEqDiff, Nat.reduceBEq, Nat.reduceBNe, Nat.reduceAdd, Nat.reduceMul, Nat.reduceSub, Nat.reduceLT, Nat.reduceLeDiff, Nat.reducePow, Int.reduceLT, Int.reduceLE, Int.reduceEq, Int.reduceNe, quietB, Nat.reduceMod, Int.reduceToNat, ne_eq, eq_self, exists_const, evBytes, byRow, byL, byStr_size, ifsz, ByteArray.size_append, Option.none_or, Option.some_or, evLook, keyD, backS, nnAll, nestP, nestS, nestT, nestL, nestC, nestB, qOf, List.set_cons_zero, List.set_cons_succ, fcx, fx]
      repeat (with_reducible refine ⟨(by with_reducible rfl), ?_⟩)
      exact rx.h) : G := d n f c ⟨r⟩
end
end Go.VC
/- A nil slice as an own row without elements; drawn regions with a given number of free operations: no statement of a program. -/
set_option linter.unusedSimpArgs false
set_option linter.unusedVariables false
namespace Go.VC
open Go Go.RowKit
section
variable {β : Base} {w w' : World} {ω ω' : Lab} {κ κ' : Nat → Value} {σ σ' : Sto} {E : Env} {a : Act} {s : St} {P : Program}
theorem Rel.nlRow (h : Rel β ω κ s a w) {k e : Nat} (t : TypeId) (own : Bool) (he : 0 < e) (hb : (get β.σ k).isSome = false) (hE : noE k s.E = true) (hS : noS k s.σ = true) :
    Rel β ω (setK κ k (.slice none 0 0)) ⟨s.N, s.E, (k, .vec t e 0 [] own) :: s.σ⟩ a w := by
  have hsrc : Src w ω [] own [] [] := by
    unfold Src
    split
    · exact ⟨rfl, fun _ _ => False, by simp, by simp, by simp⟩
    · exact ⟨rfl, by simp⟩
  have := h.newRow (k := k) (n := 0) (t := t) (e := e) (ys := []) (own := own) (ks := []) (v := .slice none 0 0) (xs := []) (vs := []) he (World.grownBy.refl w none) ⟨by simp, .inl ⟨rfl, none, rfl⟩⟩ (fun b hb => by cases hb) hsrc (by simp) hb hE hS
  have e1 : rowL ω [] k (.slice none 0 0) = ω := by
    funext b
    unfold rowL
    rw [relab_nil]
    rfl
  rw [e1] at this
  exact this
theorem odd_no (h : Rel β ω κ s a w) {k : Nat} (hk : k % 2 = 0) : (get β.σ k).isSome = false := by
  cases hg : (get β.σ k).isSome with
  | false => rfl
  | true => have := h.odd k hg; omega
/-- The nil slice of a variable. -/
theorem Sm.nlT {c : Code} {K : Exit → St → Prop} (t0 k : Nat) (t : TypeId) (e : Nat) (own : Bool) (ht : get s.E t0 = some (.c .nl)) (hk : k % 2 = 0) (he : 0 < e) (hE : noE k s.E = true) (hS : noS k s.σ = true)
    (h : Sm P c ⟨s.N, (t0, .c (.os k 0)) :: s.E, (k, .vec t e 0 [] own) :: s.σ⟩ K) : Sm P c s K := fun β a w ⟨ω, κ, hr⟩ => by
  refine h β a w ⟨ω, setK κ k (.slice none 0 0), ?_⟩
  have h' := hr.nlRow t own he (odd_no hr hk) hE hS
  refine ⟨h'.turn, h'.keys, h'.odd, h'.defers, h'.size, fun u x hx => ?_, h'.rs⟩
  simp only at hx
  rw [get_cons] at hx
  split at hx
  · rename_i e'
    subst e'
    obtain rfl := Option.some.inj hx
    have h1 := hr.env u _ ht
    refine ⟨h1.1, ?_⟩
    have h2 := h1.2
    generalize a.tmps.getD u undef = v at h2
    cases h2
    exact .os k 0 none 0 (Nat.le_refl _) (fun _ => rfl) fun o m ho hm => by
      rw [get_cons, if_pos rfl] at ho
      obtain rfl := Option.some.inj ho
      obtain rfl := Option.some.inj hm
      exact ⟨Nat.le_refl _, fun _ => setK_eq κ k _⟩
  · exact h'.env u x hx
/-- The nil slice in a box. -/
theorem Sm.nlB {c : Code} {K : Exit → St → Prop} (kb off k : Nat) (t : TypeId) (e : Nat) (own : Bool) {tb : TypeId} {cs : List Cell} (hg : get s.σ kb = some (.box tb cs)) (hc : cs[off]? = some .nl) (hk : k % 2 = 0) (he : 0 < e) (hE : noE k s.E = true) (hS : noS k s.σ = true) (hkk : k ≠ kb) (hn : nnE kb s.E = true)
    (h : Sm P c ⟨s.N, s.E, (k, .vec t e 0 [] own) :: upd s.σ kb (.box tb (cs.set off (.os k 0)))⟩ K) : Sm P c s K := fun β a w ⟨ω, κ, hr⟩ => by
  refine h β a w ⟨ω, setK κ k (.slice none 0 0), ?_⟩
  have h' := hr.nlRow t own he (odd_no hr hk) hE hS
  have hsome : (get s.σ kb).isSome = true := by rw [hg]; rfl
  have hget : ∀ j, get ((k, Ob.vec t e 0 [] own) :: upd s.σ kb (.box tb (cs.set off (.os k 0)))) j = if j = kb then some (.box tb (cs.set off (.os k 0))) else get ((k, Ob.vec t e 0 [] own) :: s.σ) j := fun j => by
    rw [get_cons, get_cons, get_upd _ _ _ _ hsome]
    by_cases h1 : j = k
    · subst h1; rw [if_pos rfl, if_neg hkk, if_pos rfl]
    · rw [if_neg h1, if_neg h1]
  have hkey : ∀ i, KeyOk (setK κ k (.slice none 0 0)) ((k, .vec t e 0 [] own) :: s.σ) (setK κ k (.slice none 0 0)) ((k, .vec t e 0 [] own) :: upd s.σ kb (.box tb (cs.set off (.os k 0)))) i := fun i => ⟨fun _ => rfl, fun o' m' ho hm => by
    rw [hget] at ho
    split at ho
    · obtain rfl := Option.some.inj ho; cases hm
    · exact ⟨o', m', ho, hm, Nat.le_refl _, fun _ => rfl⟩⟩
  refine h'.change kb (Turn.refl _ _) h'.rs.dom (fun _ _ => rfl) (fun j hj => .inr ⟨by rw [hget, if_neg hj], fun b hb => ⟨hb, rfl⟩⟩) (fun o ho => ?_) (.inl (hkey kb)) hn
  rw [hget, if_pos rfl] at ho
  obtain rfl := Option.some.inj ho
  obtain ⟨b, vs, h1, h2, h3, h4, h5, h6⟩ := h'.rs.ob kb (.box tb cs) (by rw [get_cons, if_neg (fun e => hkk e.symm)]; exact hg)
  have hover : ∀ (x : Cell) (v : Value), x ∈ cs → RC w ω (setK κ k (.slice none 0 0)) ((k, .vec t e 0 [] own) :: s.σ) x v → RC w ω (setK κ k (.slice none 0 0)) ((k, .vec t e 0 [] own) :: upd s.σ kb (.box tb (cs.set off (.os k 0)))) x v := fun x v hx hv =>
    hv.step ⟨fun b hb => ⟨hb, rfl⟩, fun i _ => hkey i, fun i hi o' m' ho hm => by have := anyN_has i x (anyNL_mem h6 x hx); rw [this] at hi; cases hi⟩
  refine ⟨b, vs, h1, h2, h3, ⟨by simpa using h4.1, fun j x v hx hv => ?_⟩, h5, ?_⟩
  · rw [List.getElem?_set] at hx
    split at hx
    · rename_i e'
      subst e'
      split at hx
      · obtain rfl := Option.some.inj hx
        have h7 := h4.2 off _ v hc hv
        cases h7
        exact .os k 0 none 0 (Nat.le_refl _) (fun _ => rfl) fun o m ho hm => by
          rw [get_cons, if_pos rfl] at ho
          obtain rfl := Option.some.inj ho
          obtain rfl := Option.some.inj hm
          exact ⟨Nat.le_refl _, fun _ => setK_eq κ k _⟩
      · cases hx
    · exact hover x v (List.mem_of_getElem? hx) (h4.2 j x v hx hv)
  · refine anyNL_of fun x hx => ?_
    rcases List.mem_or_eq_of_mem_set hx with h8 | rfl
    · exact anyNL_mem h6 x h8
    · rfl
end
end Go.VC
/- Drawn regions: appends that copy, and one allocation, among the operations that may stand in any order: no statement of a program. -/
set_option linter.unusedSimpArgs false
set_option linter.unusedVariables false
namespace Go.VC
open Go Go.RowKit
section
variable {β : Base} {w w' : World} {ω ω' : Lab} {κ κ' : Nat → Value} {σ σ' : Sto} {E E' : Env} {a : Act} {s : St} {P : Program}

/-- More objects. -/
def SubS (σ σ' : Sto) : Prop := ∀ k o, get σ k = some o → get σ' k = some o
theorem SubS.refl : SubS σ σ := fun _ _ h => h
theorem ptr_mono (hs : SubS σ σ') {x : Cell} {r : List Cell × Nat} (h : ptr σ x = some r) : ptr σ' x = some r := by
  unfold ptr at h ⊢
  split at h
  · split at h
    · rename_i k off _ cs hk; simp only [hs _ _ hk]; exact h
    · cases h
  · split at h
    · rename_i hk; simp only [hs _ _ hk]; exact h
    · rename_i hk; simp only [hs _ _ hk]; exact h
    · cases h
  · exact h
  · cases h
theorem byRow_mono (hs : SubS σ σ') {x : TV} {r : Nat × List IV} (h : byRow σ x = some r) : byRow σ' x = some r := by
  unfold byRow at h ⊢
  split at h
  · split at h
    · rename_i hk; simp only [hs _ _ hk]; exact h
    · cases h
  · exact h
  · cases h
theorem toIV0_mono (hs : SubS σ σ') {x : Cell} {r : IV} (h : toIV0 σ x = some r) : toIV0 σ' x = some r := by
  unfold toIV0 at h ⊢
  split at h
  · exact h
  · exact h
  · exact h
  · split at h
    · rename_i hk; simp only [hs _ _ hk]; exact h
    · cases h
  · split at h
    · rename_i hk; simp only [hs _ _ hk]; exact h
    · cases h
  · split at h
    · rename_i hk; simp only [hs _ _ hk]; exact h
    · cases h
  · split at h
    · rename_i hk; simp only [hs _ _ hk]; exact h
    · cases h
  · cases h
theorem toIVB_mono (hs : SubS σ σ') : ∀ {x : List Cell} {r : List IV}, toIVB σ x = some r → toIVB σ' x = some r
  | [], r, h => h
  | c :: q, r, h => by
    simp only [toIVB] at h ⊢
    obtain ⟨x, hx, h⟩ := Option.bind_eq_some_iff.1 h
    obtain ⟨y, hy, rfl⟩ := Option.map_eq_some_iff.1 h
    rw [toIV0_mono hs hx, Option.bind_some, toIVB_mono hs hy]; rfl
mutual
theorem toIV_mono (hs : SubS σ σ') : ∀ {x : Cell} {r : IV}, toIV σ x = some r → toIV σ' x = some r
  | .rf k off, r, h => by
    simp only [toIV] at h ⊢
    split at h
    · rename_i hk
      obtain ⟨y, hy, rfl⟩ := Option.map_eq_some_iff.1 h
      simp only [hs _ _ hk, toIVB_mono hs hy]; rfl
    · cases h
  | .fn f caps, r, h => by
    simp only [toIV] at h ⊢
    obtain ⟨y, hy, rfl⟩ := Option.map_eq_some_iff.1 h
    rw [toIVL_mono hs hy]; rfl
  | .im _, r, h => by simp only [toIV] at h ⊢; exact toIV0_mono hs h
  | .nl, r, h => by simp only [toIV] at h ⊢; exact toIV0_mono hs h
  | .ik _ _ _, r, h => by simp only [toIV] at h ⊢; exact toIV0_mono hs h
  | .os _ _, r, h => by simp only [toIV] at h ⊢; exact toIV0_mono hs h
  | .ov _ _ _ _, r, h => by simp only [toIV] at h ⊢; exact toIV0_mono hs h
  | .rv _ _ _, r, h => by simp only [toIV] at h ⊢; exact toIV0_mono hs h
  | .ns _ _, r, h => by simp only [toIV] at h ⊢; exact toIV0_mono hs h
theorem toIVL_mono (hs : SubS σ σ') : ∀ {x : List Cell} {r : List IV}, toIVL σ x = some r → toIVL σ' x = some r
  | [], r, h => h
  | c :: q, r, h => by
    simp only [toIVL] at h ⊢
    obtain ⟨x, hx, h⟩ := Option.bind_eq_some_iff.1 h
    obtain ⟨y, hy, rfl⟩ := Option.map_eq_some_iff.1 h
    rw [toIV_mono hs hx, Option.bind_some, toIVL_mono hs hy]; rfl
end
theorem argTs_mono (hs : SubS σ σ') : ∀ {x r : List TV}, argTs σ x = some r → argTs σ' x = some r
  | [], r, h => h
  | c :: q, r, h => by
    simp only [argTs] at h ⊢
    obtain ⟨x, hx, h⟩ := Option.bind_eq_some_iff.1 h
    obtain ⟨y, hy, rfl⟩ := Option.map_eq_some_iff.1 h
    have : argT σ' c = some x := by
      cases c with
      | c z => simp only [argT] at hx ⊢; obtain ⟨u, hu, rfl⟩ := Option.map_eq_some_iff.1 hx; rw [toIV_mono hs hu]; rfl
      | ag cs => simp only [argT] at hx ⊢; obtain ⟨u, hu, rfl⟩ := Option.map_eq_some_iff.1 hx; rw [toIVL_mono hs hu]; rfl
      | tp _ => cases hx
    rw [this, Option.bind_some, argTs_mono hs hy]; rfl
theorem srcM_mono (hs : SubS σ σ') {fl : Bool} {x : TV} {r : Nat × List IV × List Nat × Bool} (h : srcM fl σ x = some r) : srcM fl σ' x = some r := by
  unfold srcM at h ⊢
  split at h
  · exact h
  · exact h
  · exact h
  · split at h
    · rename_i hk; simp only [hs _ _ hk]; exact h
    · cases h
  · split at h
    · rename_i hk; simp only [hs _ _ hk]; exact h
    · cases h
  · cases h
theorem ev1_mono (hs : SubS σ σ') {op : Op} {r : TV} (h : ev1 P E σ op = some r) : ev1 P E σ' op = some r := by
  cases op <;> simp only [ev1] at h ⊢ <;> (try exact h)
  case makeFunc fn _ _ => cases fn <;> exact h
  case load t x =>
    obtain ⟨p, hp, h⟩ := Option.bind_eq_some_iff.1 h
    rw [hp, Option.bind_some]
    unfold evLoad at h ⊢
    split at h
    · obtain ⟨q, hq, h⟩ := Option.bind_eq_some_iff.1 h
      rw [ptr_mono hs hq]; exact h
    · cases h
  case indexAddr t x i =>
    obtain ⟨p, hp, h⟩ := Option.bind_eq_some_iff.1 h
    obtain ⟨j, hj, h⟩ := Option.bind_eq_some_iff.1 h
    rw [hp, hj, Option.bind_some, Option.bind_some]
    unfold evIndexAddr at h ⊢
    split at h
    · exact h
    · exact h
    · obtain ⟨q, hq, h⟩ := Option.bind_eq_some_iff.1 h
      simp only [hq, Option.bind_some]
      split at h
      · rename_i m hm
        obtain ⟨o, ho, hl⟩ := Option.bind_eq_some_iff.1 hm
        simp only [hs _ _ ho, Option.bind_some, hl]
        exact h
      · cases h
    · cases h
  case lookup t x i ok =>
    obtain ⟨p, hp, h⟩ := Option.bind_eq_some_iff.1 h
    obtain ⟨j, hj, h⟩ := Option.bind_eq_some_iff.1 h
    rw [hp, hj, Option.bind_some, Option.bind_some]
    unfold evLook at h ⊢
    split at h
    · split at h
      · rename_i hk; simp only [hs _ _ hk]; exact h
      · cases h
    · cases h
  case convert s d x =>
    obtain ⟨p, hp, h⟩ := Option.bind_eq_some_iff.1 h
    rw [hp, Option.bind_some]
    cases he : evConv P s d p with
    | some y => rw [he] at h; exact h
    | none =>
      rw [he] at h
      simp only [Option.none_or] at h ⊢
      unfold evBytes at h ⊢
      split at h
      · split at h
        · obtain ⟨q, hq, h⟩ := Option.bind_eq_some_iff.1 h
          simp only [byRow_mono hs hq, Option.bind_some] at h ⊢
          simp_all
        · cases h
      · cases h

/-- An append to a row that is full: it copies. -/
def apQ (P : Program) (E : Env) (σ : Sto) (c : Call) (K : TV → Prop) (_ : Tg K) : Prop :=
  match c.args.toList, c.argTypes.toList with
  | [x, y], [t, t'] => match apOf P t, opd E x with
    | some (e, sz, by_, zs), some (.c (.ik cp n cs)) => match (opd E y).bind (srcM (flatZ zs) σ) with
      | some (m, ys, ks, o2) => t' = t ∧ cp = n ∧ ks = [] ∧ cs.length = n * sz ∧ ys.length = m * sz ∧ (flatZ zs = true → allSc ys = true) ∧ (flatZ zs = true ∨ o2 = false ∨ ys = []) ∧ n + m ≤ maxLen ∧ (n + m) * by_ ≤ 140737488355328 ∧
          K (.c (.im (.sl (n + m) (cs ++ ys))))
      | none => False
    | _, _ => False
  | _, _ => False
theorem apQ_imp {c : Call} {K K' : TV → Prop} {t : Tg K} {t' : Tg K'} (h : apQ P E σ c K t) (hk : ∀ v, K v → K' v) : apQ P E σ c K' t' := by
  unfold apQ at h ⊢
  split at h
  · rename_i x y t1 t2 ha ht
    try simp only [ha, ht]
    split at h
    · rename_i e sz by_ zs cp n cs hap hx
      try simp only [hap, hx]
      split at h
      · rename_i m ys ks o2 hy
        try simp only [hy]
        obtain ⟨a1, a2, a3, a4, a5, a6, a7, a8, a9, h⟩ := h
        exact ⟨a1, a2, a3, a4, a5, a6, a7, a8, a9, hk _ h⟩
      · exact h.elim
    · exact h.elim
  · exact h.elim
theorem apQ_val {c : Call} {K : TV → Prop} {t : Tg K} (h : apQ P E σ c K t) : ∃ v, K v ∧ apQ P E σ c (· = v) .mk := by
  unfold apQ at h ⊢
  split at h
  · rename_i x y t1 t2 ha ht
    try simp only [ha, ht]
    split at h
    · rename_i e sz by_ zs cp n cs hap hx
      try simp only [hap, hx]
      split at h
      · rename_i m ys ks o2 hy
        try simp only [hy]
        obtain ⟨a1, a2, a3, a4, a5, a6, a7, a8, a9, h⟩ := h
        exact ⟨_, h, a1, a2, a3, a4, a5, a6, a7, a8, a9, rfl⟩
      · exact h.elim
    · exact h.elim
  · exact h.elim
theorem apQ_mono (hs : SubS σ σ') {c : Call} {K : TV → Prop} {t : Tg K} (h : apQ P E σ c K t) : apQ P E σ' c K t := by
  unfold apQ at h ⊢
  split at h
  · rename_i x y t1 t2 ha ht
    try simp only [ha, ht]
    split at h
    · rename_i e sz by_ zs cp n cs hap hx
      try simp only [hap, hx]
      split at h
      · rename_i m ys ks o2 hy
        obtain ⟨yv, hyv, hsrc⟩ := Option.bind_eq_some_iff.1 hy
        simp only [hyv, Option.bind_some, srcM_mono hs hsrc]
        exact h
      · exact h.elim
    · exact h.elim
  · exact h.elim
theorem apQ_congr {c : Call} {K : TV → Prop} {t : Tg K} (hl : ∀ x ∈ c.args.toList, ∀ t, x = .tmp t → get E t = get E' t) (h : apQ P E σ c K t) : apQ P E' σ c K t := by
  have : ∀ x, x ∈ c.args.toList → opd E x = opd E' x := fun x hx => opd_congr (hl x hx)
  unfold apQ at h ⊢
  split at h
  · rename_i x y t1 t2 ha ht
    try simp only [ha, ht]
    rw [← this x (by simp [ha]), ← this y (by simp [ha])]
    exact h
  · exact h.elim
theorem apQ_ok {o : Oper} {c : Call} {r : TV} {d : Nat} {next : Act → World → Prop} {Q : Exit → Act → World → Prop} (hop : o.op = .call c) (hcal : c.callee = .builtin .append) (h : apQ P s.E s.σ c (· = r) .mk) (hd : o.dst = some d) (hdN : d < s.N) (hr : RelE β s a w)
    (hn : ∀ a' w', RelE β (s.put d r) a' w' → next a' w') : o.wp P a w next Q := by
  obtain ⟨ω, κ, hr⟩ := hr
  unfold apQ at h
  split at h
  · rename_i x y t t' hargs htys
    have e1 : c.args = #[x, y] := by apply Array.ext'; simpa using hargs
    have e2 : c.argTypes = #[t, t'] := by apply Array.ext'; simpa using htys
    split at h
    · rename_i e sz by_ zs cp n cs hap hx
      split at h
      · rename_i m ys ks o2 hy
        obtain ⟨rfl, rfl, rfl, hcl, hl, hf, hfo, h63, hby, rfl⟩ := h
        obtain ⟨yv, hyv, hsrc⟩ := Option.bind_eq_some_iff.1 hy
        obtain ⟨i, z, hu, hi, hz, hzs, hpos, rfl, rfl, rfl, hone⟩ := apOf_some hap
        obtain ⟨ad, cc, vs, hev', hya, hnil, hcell⟩ := srcM_ok hr.rs hsrc (opd_ok hr.env hyv) hf
        have hxv := opd_ok hr.env hx
        generalize hxe : a.eval x = xv at hxv
        cases hxv with
        | ik _ _ _ adx hxv =>
          obtain ⟨adx', cx, us, hev2, hua, hnil2, hcell2⟩ := RI_src hxv
          injection hev2 with q1 _ q3
          subst q1; subst q3
          have hs : All2 (RI w ω) ys vs := by
            have := hya false (by
              rcases hfo with h | h | h
              · exact .inr (.inl h)
              · exact .inl h.symm
              · exact .inr (.inr h))
            exact this
          rcases Nat.eq_zero_or_pos m with rfl | hm0
          · have hy0 : ys = [] := List.eq_nil_of_length_eq_zero (by rw [hl]; simp)
            subst hy0
            have hfc : (Builtin.firstCells i.size 0 (.slice ad 0 cc)).run P w = .ok #[] w := by
              cases ad <;> simp [Builtin.firstCells, loadCells, loadCellsFrom]
            have hrun : (Builtin.append_ #[t', t'] o.type #[.slice adx cp cp, .slice ad 0 cc]).run P w = .ok (.slice adx cp cp) w := by
              cases adx with
              | none =>
                obtain ⟨rfl, _⟩ := hnil2 rfl
                simp [Builtin.append_, run_underlying hu, sizeOf, typeInfo, hi, Builtin.lenOf, hfc]
              | some b => simp [Builtin.append_, run_underlying hu, sizeOf, typeInfo, hi, Builtin.lenOf, hfc, storeCells]
            refine wp_value (v := .slice adx cp cp) (w' := w) ?_ (by
              rw [hd]
              refine hn _ _ ⟨ω, κ, hr.put hdN ?_⟩
              simp only [Nat.add_zero, List.append_nil]
              exact .im _ _ hxv)
            simp [execOp, hop, resolve, hcal, e1, e2, hxe, hev', invoke, builtin, hrun]
          · obtain ⟨w', cap', g1, g2, g3⟩ := append_fresh (P := P) (ty := o.type) hu hi hz hzs hpos (adx := adx) (n := cp) (c0 := cp) (us := us) (by rw [← hua.1]; exact hcl) hcell2 hnil2 (Nat.le_refl _) ad m cc vs hnil (by rw [← hs.1]; exact hl) hcell (by omega) h63 hby
            have hgr := hr.grown g3
            have hmo := hgr.more (lo := w.heap.size) (fun b hb1 hb2 => by
              cases hw : ω b with
              | no => rfl
              | _ => have := hr.rs.dom b (by rw [hw]; simp); omega) hr.turn.size
            have hall : All2 (RI w ω) (cs ++ ys) (us ++ vs) := All2.append hua hs
            have hlen : (us ++ vs).length = (cp + m) * i.size := g2.1
            refine wp_value (v := .slice (some ⟨w.heap.size, 0, none⟩) (cp + m) cap') (w' := w') ?_ ?_
            · simp [execOp, hop, resolve, hcal, e1, e2, hxe, hev', invoke, builtin, g1]
            · rw [hd]
              rcases g2.2 with ⟨h0, _⟩ | ⟨g, cap, cur, hv, hc, hg, hn1, hm1, hsz, htk⟩
              · omega
              · injection hv with v1 v2 v3
                injection v1 with v1
                injection v1 with v1 _ _
                subst v3; subst v1
                refine hn _ _ ⟨_, κ, hmo.put hdN (.im _ _ (.sl _ _ _ ⟨w.heap.size, 0, none⟩ (fun j => (us ++ vs).getD j undef) (fun _ => ?_) hn1 hm1 (fun j hj => ?_) fun j x hx => ?_))⟩
                · have hlt : w.heap.size < w'.heap.size := (Array.getElem?_eq_some_iff.1 hg).1
                  unfold newL
                  rw [if_pos ⟨Nat.le_refl _, hlt⟩]
                · have hjl : j < (us ++ vs).length := by rw [← hall.1]; exact hj
                  refine g2.cells ⟨w.heap.size, 0, none⟩ _ _ rfl j _ ?_
                  show (us ++ vs)[j]? = some (((us ++ vs)[j]?).getD undef)
                  rw [List.getElem?_eq_getElem hjl]; rfl
                · obtain ⟨u, hu', hr'⟩ := hall.get hx
                  have : (us ++ vs).getD j undef = u := by rw [List.getD, hu']; rfl
                  rw [this]
                  refine hr'.kept fun b hb => ⟨?_, g3.block b (hr.rs.dom b (by rw [hb]; simp)) (by simp)⟩
                  unfold newL
                  rw [if_neg fun e => by have := hr.rs.dom b (by rw [hb]; simp); omega]
                  exact hb
      · exact h.elim
    · exact h.elim
  · exact h.elim
end
end Go.VC
