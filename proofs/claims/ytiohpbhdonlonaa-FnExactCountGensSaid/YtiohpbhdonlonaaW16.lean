/- A region whose order Go leaves open: its first operations, which turn nothing, may stand in any order. -/
import Derived.Test.YtiohpbhdonlonaaW15
import Derived.StillTail
set_option linter.unusedSimpArgs false
set_option linter.unusedVariables false
namespace Go.VC
open Go Go.RowKit
section
variable {β : Base} {w w' : World} {ω ω' : Lab} {κ κ' : Nat → Value} {σ : Sto} {E E' : Env} {a : Act} {s : St} {P : Program}

/-- A slice that is made: its cells. -/
def bsV (P : Program) (E : Env) (t : TypeId) (n : Nat) (ps : Array (Nat × Operand)) : Option (List IV) :=
  match apOf P t, opds E ps.toList with
  | some (_, sz, _, zs), some qs => if n * sz ≤ 2 ^ 24 then (fillC ((List.range n).map fun i => (i * sz, sz)) (bsCells n sz zs) qs).bind toIVs else none
  | _, _ => none
/-- An operation that turns nothing comes to r. -/
def qv (P : Program) (E : Env) (σ : Sto) (o : Oper) (r : TV) : Prop :=
  match o.op with
  | .call c => match c.callee with
    | .value f => ∃ x g caps xs ys, opd E f = some x ∧ calleeOf x = some (g, caps) ∧ fnOk P g = true ∧ opsT E c.args.toList = some xs ∧ FnS P g [] ys [] r ∧ r.keys = [] ∧ ((argTs σ (xs ++ caps) = some ys ∧ pureT r = true) ∨ argTs [] (xs ++ caps) = some ys)
    | _ => ev1 P E σ o.op = some r
  | .buildSlice t n ps => ∃ ys, bsV P E t n ps = some ys ∧ r = .c (.ik n n ys)
  | op => ev1 P E σ op = some r

theorem qv_ok {o : Oper} {r : TV} {d : Nat} {next : Act → World → Prop} {Q : Exit → Act → World → Prop} (h : qv P s.E s.σ o r) (hd : o.dst = some d) (hdN : d < s.N) (hr : RelE β s a w)
    (hn : ∀ a' w', RelE β (s.put d r) a' w' → next a' w') : o.wp P a w next Q := by
  obtain ⟨ω, κ, hr⟩ := hr
  have hev : ev1 P s.E s.σ o.op = some r → o.wp P a w next Q := fun h => by
    obtain ⟨u, g1, g2⟩ := ev1_ok (P := P) (o := o) hr.rs hr.env h
    exact wp_value g1 (by rw [hd]; exact hn _ _ ⟨ω, κ, hr.put hdN g2⟩)
  unfold qv at h
  split at h
  · rename_i c hop
    split at h
    · rename_i f hcal
      obtain ⟨x, g, caps, xs, ys, h1, h2, h3, h4, h5, h6, h7⟩ := h
      have hcg : CallG P s g (xs ++ caps) d (fun s' => s' = s.put d r) .mk := by
        have hki : keysIn [] [] r.keys = true ∧ keysInS [] [] [] = true := by rw [h6]; exact ⟨rfl, rfl⟩
        rcases h7 with ⟨h7, h8⟩ | h7
        · exact CallG.pure h5 h7 ⟨h8, rfl⟩ hki rfl hdN rfl
        · exact CallG.val h5 h7 hki rfl hdN rfl
      obtain ⟨cs, hv, hc⟩ := calleeOf_ok h2 (opd_ok hr.env h1)
      have hav := opsT_ok hr.env h4
      have hall : All2 (RT w ω κ s.σ) (xs ++ caps) ((c.args.toList.map a.eval) ++ cs) := hav.append hc
      have hargs' : c.args.map a.eval ++ cs.toArray = ((c.args.toList.map a.eval) ++ cs).toArray := by apply Array.ext'; simp
      refine wp_enter (g := g) (args := ((c.args.toList.map a.eval) ++ cs).toArray) ?_ ((hcg β ω κ a w _ hr hall).mono fun e w' ⟨v, he, s', hK', hr'⟩ => ⟨v, he, by rw [hd]; subst hK'; exact hn _ _ hr'⟩)
      rw [← hargs']
      simp [execOp, hop, resolve, hcal, hv, Deferred.ofValue, invoke, run_callFunc h3]
    · exact hev h
  · rename_i t n ps hop
    obtain ⟨ys, hys, rfl⟩ := h
    unfold bsV at hys
    split at hys
    · rename_i e sz by_ zs qs hap hqs
      split at hys
      · rename_i hc
        have hc24 := hc
        obtain ⟨i, z, hu, hi, hz, hzs, hpos, rfl, rfl, rfl, hone⟩ := apOf_some hap
        obtain ⟨cs, hcs, hys2⟩ := Option.bind_eq_some_iff.1 hys
        have hz0 : All2 (RC w ω κ s.σ) (bsCells n i.size z.cells.toList) ((Array.range (n * i.size)).map fun j => z.cells[j % z.cells.size]!).toList := by
          refine ⟨by simp [bsCells], fun j x y hx hy => ?_⟩
          simp only [bsCells, List.getElem?_map] at hx
          obtain ⟨q, hq, rfl⟩ := Option.map_eq_some_iff.1 hx
          obtain ⟨hj, hq'⟩ := List.getElem?_eq_some_iff.1 hq
          simp at hj hq'
          subst hq'
          have hm : j % i.size < z.cells.size := by rw [hzs]; exact Nat.mod_lt _ hpos
          have : y = z.cells[j % i.size] := by
            simp [hj] at hy
            rw [← hy, hzs]; exact getElem!_pos z.cells _ hm
          rw [this]
          have e : z.cells.toList.getD (j % i.size) undef = z.cells[j % i.size] := by simp [List.getD, hm]
          rw [e]
          exact ofC_ok _
        have hz1 : ∀ u ∈ ((Array.range (n * i.size)).map fun j => z.cells[j % z.cells.size]!).toList, u.oneCell' = true := fun u hu => by
          simp only [Array.toList_map, List.mem_map] at hu
          obtain ⟨j, _, rfl⟩ := hu
          have hm : j % i.size < z.cells.size := by rw [hzs]; exact Nat.mod_lt _ hpos
          exact hone _ (by rw [hzs, getElem!_pos z.cells _ hm]; simp)
        obtain ⟨vs, g1, g2, g3⟩ := fillC_ok (place := fun j => some (j * i.size, i.size)) (fun j q hq => by
          rw [List.getElem?_map] at hq
          obtain ⟨j', hj', rfl⟩ := Option.map_eq_some_iff.1 hq
          obtain ⟨_, hq'⟩ := List.getElem?_eq_some_iff.1 hj'
          simp at hq'; subst hq'; rfl) (opds_ok hr.env hqs) hz0 hz1 hcs
        have hrun : (execOp a.eval o).run P w = .ok (.value (.slice (some ⟨w.heap.size, 0, none⟩) n n)) (w.alloc (.cells vs e)) := by
          have hfill : Instr.fill (fun j => some (j * i.size, i.size)) ((Array.range (n * i.size)).map fun j => z.cells[j % z.cells.size]!) (ps.toList.map fun p => (p.1, a.eval p.2)) = some vs := g1
          have hs24 : ¬ (16777216 < n * i.size) := by omega
          by_cases hn0 : n * i.size = 0
          · have hr0 : ∀ f : Nat → Value, (Array.range 0).map f = #[] := fun f => by apply Array.ext'; simp
            have hfill' : Instr.fill (fun j => some (j * i.size, i.size)) #[] (ps.toList.map fun p => (p.1, a.eval p.2)) = some vs := by rw [hn0, hr0] at hfill; exact hfill
            simp [execOp, hop, Instr.buildSlice, run_underlying hu, sizeOf, typeInfo, hi, hn0, hr0, hfill', newRow]
          · simp [execOp, hop, Instr.buildSlice, run_underlying hu, sizeOf, typeInfo, hi, hn0, zeroValue, hz, hs24, hfill, newRow]
        have hyv := toIVs_ok hys2 g2
        have hg := World.grownBy_alloc w (.cells vs e) none
        have hgr := hr.grown hg
        have hmo := hgr.more (lo := w.heap.size) (fun b hb1 hb2 => by
          cases hw : ω b with
          | no => rfl
          | _ => have := hr.rs.dom b (by rw [hw]; simp); omega) hr.turn.size
        refine wp_value hrun ?_
        rw [hd]
        refine hn _ _ ⟨_, κ, hmo.put hdN (.ik _ _ _ _ (.sl _ _ _ ⟨w.heap.size, 0, none⟩ (fun j => vs.toList.getD j undef) (fun _ => ?_) (Nat.le_refl _) ?_ (fun j hj => ?_) fun j x hx => ?_))⟩
        · unfold newL; rw [if_pos (by simp)]
        · have : n ≤ n * i.size := Nat.le_mul_of_pos_right _ hpos
          simp [maxLen]; omega
        · have hjl : j < vs.size := by have := hyv.1; simp at this; omega
          rw [Addr.add_lit, Nat.zero_add, cell_row (heap_alloc_new w _)]
          simp [List.getD, hjl]
        · obtain ⟨u, hu', hr'⟩ := hyv.get hx
          have : vs.toList.getD j undef = u := by rw [List.getD, hu']; rfl
          rw [this]
          refine hr'.kept fun b hb => ⟨?_, heap_alloc_old w _ (hr.rs.dom b (by rw [hb]; simp))⟩
          unfold newL
          rw [if_neg fun e => by have := hr.rs.dom b (by rw [hb]; simp); omega]
          exact hb
      · cases hys
    · cases hys
  · exact hev h

theorem opd_congr {x : Operand} (h : ∀ t, x = .tmp t → get E t = get E' t) : opd E x = opd E' x := by
  cases x with
  | tmp t => exact h t rfl
  | _ => rfl
theorem opds_congr : ∀ {l : List (Nat × Operand)}, (∀ p ∈ l, ∀ t, p.2 = .tmp t → get E t = get E' t) → opds E l = opds E' l
  | [], _ => rfl
  | (i, x) :: r, h => by
    simp only [opds]
    rw [opd_congr (h (i, x) (by simp)), opds_congr fun p hp => h p (by simp [hp])]
theorem opsT_congr : ∀ {l : List Operand}, (∀ x ∈ l, ∀ t, x = .tmp t → get E t = get E' t) → opsT E l = opsT E' l
  | [], _ => rfl
  | x :: r, h => by
    simp only [opsT]
    rw [opd_congr (h x (by simp)), opsT_congr fun p hp => h p (by simp [hp])]
theorem opcs_congr : ∀ {l : List Operand}, (∀ x ∈ l, ∀ t, x = .tmp t → get E t = get E' t) → opcs E l = opcs E' l
  | [], _ => rfl
  | x :: r, h => by
    simp only [opcs]
    rw [opd_congr (h x (by simp)), opcs_congr fun p hp => h p (by simp [hp])]
theorem bnd_congr {d : Int} {x : Option Operand} (h : ∀ y, x = some y → ∀ t, y = .tmp t → get E t = get E' t) : bnd E d x = bnd E' d x := by
  cases x with
  | none => rfl
  | some y => simp only [bnd]; rw [opd_congr (h y rfl)]

theorem ev1_congr {op : Op} (h : ∀ x ∈ op.operands.toList, ∀ t, x = .tmp t → get E t = get E' t) : ev1 P E σ op = ev1 P E' σ op := by
  cases op <;> simp only [ev1]
  case move x => exact opd_congr (h x (by simp [Op.operands]))
  case assign x => exact opd_congr (h x (by simp [Op.operands]))
  case pick c x y => rw [opd_congr (h c (by simp [Op.operands])), opd_congr (h x (by simp [Op.operands])), opd_congr (h y (by simp [Op.operands]))]
  case load t x => rw [opd_congr (h x (by simp [Op.operands]))]
  case field t x f => rw [opd_congr (h x (by simp [Op.operands]))]
  case fieldAddr t x f => rw [opd_congr (h x (by simp [Op.operands]))]
  case indexAddr t x i => rw [opd_congr (h x (by simp [Op.operands])), opd_congr (h i (by simp [Op.operands]))]
  case index t x i => rw [opd_congr (h x (by simp [Op.operands])), opd_congr (h i (by simp [Op.operands]))]
  case build t ps => unfold evBuild; rw [opds_congr fun p hp => h p.2 (by simp [Op.operands]; exact ⟨p.1, by simpa using hp⟩)]
  case extract x i => rw [opd_congr (h x (by simp [Op.operands]))]
  case nilCheck x => rw [opd_congr (h x (by simp [Op.operands]))]
  case unOp op t x => rw [opd_congr (h x (by simp [Op.operands]))]
  case binOp op t x y u => rw [opd_congr (h x (by simp [Op.operands])), opd_congr (h y (by simp [Op.operands]))]
  case convert s d x => rw [opd_congr (h x (by simp [Op.operands]))]
  case slice t x lo hi mx =>
    have h1 : opd E x = opd E' x := opd_congr (h x (by simp [Op.operands]))
    have h2 : ∀ d, bnd E d lo = bnd E' d lo := fun d => bnd_congr fun y hy => h y (by simp [Op.operands, hy])
    have h3 : ∀ d, bnd E d hi = bnd E' d hi := fun d => bnd_congr fun y hy => h y (by simp [Op.operands, hy])
    have h4 : ∀ d, bnd E d mx = bnd E' d mx := fun d => bnd_congr fun y hy => h y (by simp [Op.operands, hy])
    unfold evSlice partOf partOv
    simp only [h1, h2, h3, h4]
  case makeFunc fn first caps =>
    cases fn <;> simp only
    rw [opcs_congr fun x hx => h x (by simp [Op.operands] at hx ⊢; exact .inr hx)]
  case call c =>
    have : ∀ x, x ∈ c.args.toList → opd E x = opd E' x := fun x hx => opd_congr (h x (by simp [Op.operands, Call.operands]; exact .inr (by simpa using hx)))
    split
    · rename_i x t h1 h2 h3; rw [this x (by simp [h2])]
    · rename_i x y h1 h2; rw [this x (by simp [h2]), this y (by simp [h2])]
    · rename_i x y h1 h2; rw [this x (by simp [h2]), this y (by simp [h2])]
    · rfl

theorem qv_congr {o : Oper} {r : TV} (h : ∀ x ∈ o.op.operands.toList, ∀ t, x = .tmp t → get E t = get E' t) (hq : qv P E σ o r) : qv P E' σ o r := by
  unfold qv at *
  split at hq
  · rename_i c hop
    split at hq
    · rename_i f hcal
      obtain ⟨x, g, caps, xs, ys, h1, h2, h3, h4, h5⟩ := hq
      refine ⟨x, g, caps, xs, ys, ?_, h2, h3, ?_, h5⟩
      · rw [← h1]; exact (opd_congr (h f (by simp [hop, Op.operands, Call.operands, hcal]))).symm
      · rw [← h4]; exact (opsT_congr fun x hx => h x (by simp [hop, Op.operands, Call.operands]; exact .inr (by simpa using hx))).symm
    · rename_i hne
      rw [← ev1_congr h]; exact hq
  · rename_i t n ps hop
    obtain ⟨ys, h1, h2⟩ := hq
    refine ⟨ys, ?_, h2⟩
    unfold bsV at *
    rw [← opds_congr fun p hp => h p.2 (by simp [hop, Op.operands]; exact ⟨p.1, by simpa using hp⟩)]
    exact h1
  · rename_i h1 h2
    rw [← ev1_congr h]; exact hq
theorem gdOf_congr {ops : Array Oper} {o : Oper} (h : ∀ t ∈ o.looksAt ops, get E t = get E' t) : gdOf ops E o = gdOf ops E' o := by
  unfold gdOf
  split
  · rfl
  · rename_i j want hg
    split
    · rename_i d hd
      rw [h d (by simp [Oper.looksAt, hg, hd])]
    · rfl
theorem looks_opnd {ops : Array Oper} {o : Oper} (h : ∀ t ∈ o.looksAt ops, get E t = get E' t) : ∀ x ∈ o.op.operands.toList, ∀ t, x = .tmp t → get E t = get E' t := fun x hx t ht => by
  subst ht
  refine h t ?_
  simp only [Oper.looksAt, List.mem_append, List.mem_filterMap]
  exact .inl ⟨_, hx, rfl⟩

/-- A call among operations that turn nothing. -/
def CallQ (P : Program) (σ : Sto) (g : FuncId) (xs : List TV) (K : TV → Prop) (_ : Tg K) : Prop :=
  ∃ ys v, FnS P g [] ys [] v ∧ v.keys = [] ∧ ((argTs σ xs = some ys ∧ pureT v = true) ∨ argTs [] xs = some ys) ∧ K v
theorem CallQ.pure {σ : Sto} {g : FuncId} {xs ys : List TV} {v : TV} {K : TV → Prop} {t : Tg K} (hf : FnS P g [] ys [] v) (ha : argTs σ xs = some ys) (hp : pureT v = true) (hk : v.keys = []) (hK : K v) : CallQ P σ g xs K t := ⟨ys, v, hf, hk, .inl ⟨ha, hp⟩, hK⟩
theorem CallQ.val {σ : Sto} {g : FuncId} {xs ys : List TV} {v : TV} {K : TV → Prop} {t : Tg K} (hf : FnS P g [] ys [] v) (ha : argTs [] xs = some ys) (hk : v.keys = []) (hK : K v) : CallQ P σ g xs K t := ⟨ys, v, hf, hk, .inr ha, hK⟩
/-- Not yet looked at. -/
def Hold (p : Prop) (_ : Tg p) : Prop := p
theorem Hold.mk {p : Prop} {t : Tg p} (h : p) : Hold p t := h
/-- The operations in the text's order; each turns nothing. -/
def qW (P : Program) (ops : Array Oper) : List Oper → St → (St → Prop) → Prop
  | [], s, K => K s
  | o :: r, s, K => match o.dst with
    | some d => d < s.N ∧ gdP (gdOf ops s.E o) (match o.op with
        | .call c => match c.callee with
          | .value f => match (opd s.E f).bind calleeOf, opsT s.E c.args.toList with
            | some (g, caps), some xs => fnOk P g = true ∧ CallQ P s.σ g (xs ++ caps) (fun v => qW P ops r (s.put d v) K) .mk
            | _, _ => False
          | _ => onS (ev1 P s.E s.σ o.op) (fun v => qW P ops r (s.put d v) K) .mk
        | .buildSlice t n ps => onS (bsV P s.E t n ps) (fun ys => qW P ops r (s.put d (.c (.ik n n ys))) K) .mk
        | op => onS (ev1 P s.E s.σ op) (fun v => qW P ops r (s.put d v) K) .mk)
      (qW P ops r (s.put d (.tp [])) K) .mk .mk
    | none => False
/-- An operation agrees with a frame in which its result stands already. -/
def Sol (P : Program) (ops : Array Oper) (σ : Sto) (N : Nat) (F : Env) (o : Oper) : Prop :=
  ∃ d r, o.dst = some d ∧ d < N ∧ get F d = some r ∧ ((gdOf ops F o = some true ∧ qv P F σ o r) ∨ (gdOf ops F o = some false ∧ r = .tp []))
theorem Sol.congr {ops : Array Oper} {N : Nat} {o : Oper} (h : Sol P ops σ N E o) (hl : ∀ t ∈ o.looksAt ops, get E t = get E' t) (hd : ∀ d, o.dst = some d → get E d = get E' d) : Sol P ops σ N E' o := by
  obtain ⟨d, r, h1, h2, h3, h4⟩ := h
  refine ⟨d, r, h1, h2, by rw [← hd d h1]; exact h3, ?_⟩
  rw [← gdOf_congr hl]
  rcases h4 with ⟨h4, h5⟩ | h4
  · exact .inl ⟨h4, qv_congr (looks_opnd hl) h5⟩
  · exact .inr h4

/-- No operation writes what an earlier one, or it itself, has looked at or written. -/
def lateB (ops : Array Oper) : List Oper → Bool
  | [] => true
  | o :: r => (o :: r).all (fun p => match p.dst with | some d => !(o.looksAt ops).contains d | none => false) && r.all (fun p => p.dst != o.dst) && lateB ops r
theorem qW_sol {ops : Array Oper} : ∀ {l : List Oper} {s : St} {K : St → Prop}, qW P ops l s K → lateB ops l = true →
    ∃ F, K ⟨s.N, F, s.σ⟩ ∧ (∀ t, (∀ o ∈ l, o.dst ≠ some t) → get F t = get s.E t) ∧ ∀ o ∈ l, Sol P ops s.σ s.N F o
  | [], s, K, h, _ => ⟨s.E, h, fun _ _ => rfl, by simp⟩
  | o :: r, s, K, h, hl => by
    simp only [lateB, Bool.and_eq_true] at hl
    obtain ⟨⟨hl1, hl2⟩, hl3⟩ := hl
    unfold qW gdP onS at h
    split at h
    · rename_i d hd
      obtain ⟨hdN, h⟩ := h
      -- in each case: a value v with which the rest goes on
      have main : ∀ v, qW P ops r (s.put d v) K → ((gdOf ops s.E o = some true ∧ qv P s.E s.σ o v) ∨ (gdOf ops s.E o = some false ∧ v = .tp [])) →
          ∃ F, K ⟨s.N, F, s.σ⟩ ∧ (∀ t, (∀ p ∈ o :: r, p.dst ≠ some t) → get F t = get s.E t) ∧ ∀ p ∈ o :: r, Sol P ops s.σ s.N F p := by
        intro v hq hv
        obtain ⟨F, h1, h2, h3⟩ := qW_sol hq hl3
        have hFd : get F d = some v := by
          rw [h2 d fun p hp => ?_]
          · simp [St.put, get_cons]
          · have := List.all_eq_true.1 hl2 p hp
            rw [hd] at this
            simpa using this
        have hno : ∀ t ∈ o.looksAt ops, ∀ p ∈ o :: r, p.dst ≠ some t := fun t ht p hp he => by
          have := List.all_eq_true.1 hl1 p hp
          rw [he] at this
          simp at this
          exact this ht
        refine ⟨F, h1, fun t ht => ?_, fun p hp => ?_⟩
        · rw [h2 t fun p hp => ht p (by simp [hp])]
          have : t ≠ d := fun e => ht o (by simp) (by rw [hd, e])
          simp [St.put, get_cons, this]
        · rcases List.mem_cons.1 hp with rfl | hp
          · have hag : ∀ t ∈ p.looksAt ops, get s.E t = get F t := fun t ht => by
              rw [h2 t fun q hq => hno t ht q (by simp [hq])]
              have : t ≠ d := fun e => hno t ht p (by simp) (by rw [hd, e])
              simp [St.put, get_cons, this]
            refine ⟨d, v, hd, hdN, hFd, ?_⟩
            rw [← gdOf_congr hag]
            rcases hv with ⟨g1, g2⟩ | g
            · exact .inl ⟨g1, qv_congr (looks_opnd hag) g2⟩
            · exact .inr g
          · exact h3 p hp
      split at h
      · rename_i hg
        split at h
        · rename_i c hop
          split at h
          · rename_i f hcal
            split at h
            · rename_i g caps xs hf hxs
              obtain ⟨hok, ys, v, g1, g2, g3, g4⟩ := h
              obtain ⟨x, hx, hgx⟩ := Option.bind_eq_some_iff.1 hf
              refine main v g4 (.inl ⟨hg, ?_⟩)
              unfold qv
              simp only [hop, hcal]
              exact ⟨x, g, caps, xs, ys, hx, hgx, hok, hxs, g1, g2, g3⟩
            · exact h.elim
          · rename_i hne
            split at h
            · rename_i v hv
              refine main v h (.inl ⟨hg, ?_⟩)
              unfold qv
              simp only [hop]
              cases hcal : c.callee with
              | value f => exact absurd hcal (hne f)
              | _ => rw [hop] at hv; exact hv
            · exact h.elim
        · rename_i t n ps hop
          split at h
          · rename_i ys hys
            refine main _ h (.inl ⟨hg, ?_⟩)
            unfold qv
            simp only [hop]
            exact ⟨ys, hys, rfl⟩
          · exact h.elim
        · rename_i hn1 hn2
          split at h
          · rename_i v hv
            refine main v h (.inl ⟨hg, ?_⟩)
            unfold qv
            split
            · rename_i c hc; exact absurd hc (hn1 c)
            · rename_i t n ps hc; exact absurd hc (hn2 t n ps)
            · exact hv
          · exact h.elim
      · rename_i hg; exact main _ h (.inr ⟨hg, rfl⟩)
      · exact h.elim
    · exact h.elim

/-- Is operation j listed, and does it write t? -/
def Wrote (ops : Array Oper) (n : Nat) (listed : Array Bool) (t : Nat) : Prop := ∃ j o, j < n ∧ listed.getD j false = true ∧ ops[j]? = some o ∧ o.dst = some t
/-- The frame when the listed operations have been performed. -/
def Mix (ops : Array Oper) (n : Nat) (listed : Array Bool) (E F E' : Env) : Prop := ∀ t, (Wrote ops n listed t → get E' t = get F t) ∧ (¬ Wrote ops n listed t → get E' t = get E t)
/-- Each operation that looks at what another one of the first n writes waits for it; edges lead back. -/
def waitB (ops : Array Oper) (n : Nat) : Bool :=
  (List.range ops.size).all fun i => match ops[i]? with
    | some o => o.after.all (fun e => !Region.binds .any e || decide (e.on < i)) &&
        (decide (n ≤ i) || (o.looksAt ops).all fun t => (List.range n).all fun j => match ops[j]? with
          | some q => q.dst != some t || o.after.any fun e => Region.binds .any e && e.on == j
          | none => true)
    | none => true
theorem waitB_spec {ops : Array Oper} {n i : Nat} {o : Oper} (h : waitB ops n = true) (hi : ops[i]? = some o) :
    (∀ e ∈ o.after, Region.binds .any e = true → e.on < i) ∧ (i < n → ∀ t ∈ o.looksAt ops, ∀ j q, j < n → ops[j]? = some q → q.dst = some t → ∃ e ∈ o.after, Region.binds .any e = true ∧ e.on = j) := by
  have hlt : i < ops.size := (Array.getElem?_eq_some_iff.1 hi).1
  have h1 := List.all_eq_true.1 h i (List.mem_range.2 hlt)
  simp only [hi, Bool.and_eq_true, Bool.or_eq_true, decide_eq_true_eq] at h1
  refine ⟨fun e he hb => ?_, fun hin t ht j q hj hq hd => ?_⟩
  · have := Array.all_eq_true_iff_forall_mem.1 h1.1 e he
    simpa [hb] using this
  · rcases h1.2 with h2 | h2
    · omega
    · have h3 := List.all_eq_true.1 (List.all_eq_true.1 h2 t ht) j (List.mem_range.2 hj)
      simp only [hq, hd, Bool.or_eq_true] at h3
      rcases h3 with h3 | h3
      · simp at h3
      · obtain ⟨e, he, hb⟩ := Array.any_eq_true'.1 h3
        simp only [Bool.and_eq_true, beq_iff_eq] at hb
        exact ⟨e, he, hb.1, hb.2⟩

theorem ready_least {ops : Array Oper} {n : Nat} {listed : Array Bool} (hw : waitB ops n = true) (hsz : listed.size = ops.size) : ∀ (i : Nat), i < ops.size → listed.getD i true = false → ∃ j ∈ Region.ready .any ops listed, j ≤ i := by
  intro i
  induction i using Nat.strongRecOn with
  | _ i ih =>
    intro hi hun
    by_cases h : i ∈ Region.ready .any ops listed
    · exact ⟨i, h, Nat.le_refl _⟩
    · have ho : ops[i]? = some ops[i] := by simp [hi]
      have : ∃ e ∈ ops[i].after, Region.binds .any e = true ∧ listed.getD e.on false = false := by
        apply Classical.byContradiction
        intro hno
        refine h (mem_ready.2 ⟨hun, _, ho, fun e he hb => ?_⟩)
        cases hl : listed.getD e.on false with
        | true => rfl
        | false => exact absurd ⟨e, he, hb, hl⟩ hno
      obtain ⟨e, he, hb, hl⟩ := this
      have hlt := (waitB_spec hw ho).1 e he hb
      obtain ⟨j, hj, hji⟩ := ih e.on hlt (by omega) (getD_in (by rw [hsz]; omega) hl)
      exact ⟨j, hj, by omega⟩

/-- The last operations, one behind the other. -/
theorem tail_any {ops : Array Oper} {n : Nat} {Q : Exit → Act → World → Prop} {K : St → Prop} (hw : waitB ops n = true) (hc : Region.chainB .any ops n = true)
    (hn : ∀ s' a' w', K s' → RelE β s' a' w' → Q .normal a' w') : ∀ (fuel m : Nat) (listed : Array Bool) (s : St) (a : Act) (w : World), n ≤ m → m ≤ ops.size → listed.size = ops.size → (∀ j, j < ops.size → listed.getD j true = decide (j < m)) →
      ops.size - m ≤ fuel → opsW P ops (ops.toList.drop m) s K → RelE β s a w → wpAny P .any ops Q fuel listed a w := by
  intro fuel
  induction fuel with
  | zero =>
    intro m listed s a w hnm hm hsz hl hf hop hr
    have : m = ops.size := by omega
    subst this
    have hnil : Region.ready .any ops listed = [] := by
      apply List.eq_nil_iff_forall_not_mem.2
      intro j hj
      obtain ⟨h1, o, ho, _⟩ := mem_ready.1 hj
      have := (Array.getElem?_eq_some_iff.1 ho).1
      rw [hl j this] at h1
      simp [this] at h1
    refine ⟨hnil, ?_⟩
    rw [List.drop_of_length_le (by simp)] at hop
    exact hn _ _ _ hop hr
  | succ fuel ih =>
    intro m listed s a w hnm hm hsz hl hf hop hr
    by_cases hme : m = ops.size
    · subst hme
      have hnil : Region.ready .any ops listed = [] := by
        apply List.eq_nil_iff_forall_not_mem.2
        intro j hj
        obtain ⟨h1, o, ho, _⟩ := mem_ready.1 hj
        have := (Array.getElem?_eq_some_iff.1 ho).1
        rw [hl j this] at h1
        simp [this] at h1
      rw [List.drop_of_length_le (by simp)] at hop
      exact ⟨fun _ => hn _ _ _ hop hr, fun i hi => by rw [hnil] at hi; cases hi⟩
    · have hlt : m < ops.size := by omega
      have hum : listed.getD m true = false := by rw [hl m hlt]; simp
      have honly : ∀ i ∈ Region.ready .any ops listed, i = m := fun i hi => by
        obtain ⟨h1, o, ho, hall⟩ := mem_ready.1 hi
        have hil := (Array.getElem?_eq_some_iff.1 ho).1
        rw [hl i hil] at h1
        simp at h1
        rcases Nat.lt_or_ge m i with h | h
        · have hcc := List.all_eq_true.1 hc i (List.mem_range.2 hil)
          simp only [Bool.or_eq_true, decide_eq_true_eq] at hcc
          rcases hcc with hcc | hcc
          · omega
          · obtain ⟨oi, ho2, e, he, hb, hon⟩ := Region.waitsFor_spec hcc
            have : oi = o := Option.some.inj (ho2.symm.trans ho)
            subst this
            have h2 := hall e he hb
            rw [hon] at h2
            have h3 := hl (i - 1) (by omega)
            have h4 : listed.getD (i - 1) true = listed.getD (i - 1) false := by
              have : i - 1 < listed.size := by omega
              simp [this]
            rw [h4, h2] at h3
            simp at h3
            omega
        · omega
      obtain ⟨j, hj, _⟩ := ready_least hw hsz m hlt hum
      have hjm := honly j hj
      subst hjm
      refine ⟨fun h => (by rw [h] at hj; cases hj), fun i hi => ?_⟩
      have := honly i hi
      subst this
      have ho : ops[i]? = some ops[i] := by simp [hlt]
      have hdrop : ops.toList.drop i = ops[i] :: ops.toList.drop (i + 1) := by rw [List.drop_eq_getElem_cons (by simpa using hlt)]; simp
      rw [hdrop] at hop
      have hnext : ∀ s' a' w', opsW P ops (ops.toList.drop (i + 1)) s' K → RelE β s' a' w' → wpAny P .any ops Q fuel (listed.setIfInBounds i true) a' w' := fun s' a' w' h1 h2 =>
        ih (i + 1) _ s' a' w' (by omega) (by omega) (by simp [hsz]) (fun j hj => by
          by_cases hij : i = j
          · subst hij; simp [hsz, hj]
          · have := hl j hj
            rw [getD_set_ne true hij, this]
            simp only [decide_eq_decide]; omega) (by omega) h1 h2
      unfold wpOp
      simp only [ho]
      obtain ⟨ω, κ, hr'⟩ := id hr
      unfold opsW gdP at hop
      split at hop
      · rename_i hg
        rw [if_pos (gdOf_ok hr'.env hg)]
        exact .inl (wpO_ok hop hr hnext)
      · rename_i hg
        have hf' := gdOf_ok hr'.env hg
        rw [if_neg (by rw [hf']; simp)]
        split at hop
        · rename_i d hd
          rw [hd]
          exact hnext _ _ _ hop.2 ⟨ω, κ, hr'.put hop.1 ⟨[], rfl, rfl, by simp⟩⟩
        · rename_i hd
          rw [hd]
          exact hnext _ _ _ hop hr
      · exact hop.elim

theorem head_any {ops : Array Oper} {n : Nat} {Q : Exit → Act → World → Prop} {K : St → Prop} {s : St} {F : Env} (hw : waitB ops n = true) (hc : Region.chainB .any ops n = true) (hs : n < ops.size → Region.sinkB .any ops n = true) (hnsz : n ≤ ops.size)
    (hout : ∀ t, (∀ o ∈ ops.toList.take n, o.dst ≠ some t) → get F t = get s.E t) (hsol : ∀ o ∈ ops.toList.take n, Sol P ops s.σ s.N F o)
    (hop : opsW P ops (ops.toList.drop n) ⟨s.N, F, s.σ⟩ K) (hn : ∀ s' a' w', K s' → RelE β s' a' w' → Q .normal a' w') :
    ∀ (fuel : Nat) (listed : Array Bool) (E' : Env) (a : Act) (w : World), HeadInv .any ops n listed → (((List.range ops.size).filter fun j => !listed.getD j true).length ≤ fuel) → Mix ops n listed s.E F E' →
      RelE β ⟨s.N, E', s.σ⟩ a w → wpAny P .any ops Q fuel listed a w := by
  have hmem : ∀ {i : Nat} {o : Oper}, i < n → ops[i]? = some o → o ∈ ops.toList.take n := fun {i o} hi ho => by
    refine List.mem_of_getElem? (i := i) ?_
    rw [List.getElem?_take_of_lt hi]; simpa using ho
  intro fuel
  induction fuel with
  | zero =>
    intro listed E' a w inv hf hmix hr
    -- all are listed
    have hall : ∀ j, j < ops.size → listed.getD j true = true := fun j hj => by
      cases hl : listed.getD j true with
      | true => rfl
      | false =>
        have : j ∈ (List.range ops.size).filter fun j => !listed.getD j true := List.mem_filter.2 ⟨List.mem_range.2 hj, by simp [hl]⟩
        have := List.length_pos_of_mem this
        omega
    have hne : n = ops.size := by
      rcases Nat.lt_or_ge n ops.size with h | h
      · have := inv.tail n (Nat.le_refl _) h; rw [hall n h] at this; cases this
      · omega
    refine tail_any (s := ⟨s.N, F, s.σ⟩) (n := n) hw hc hn 0 ops.size listed a w (by omega) (Nat.le_refl _) inv.size (fun j hj => by rw [hall j hj]; simp [hj]) (by omega) (by rw [← hne]; exact hop) (hr.weak ⟨rfl, fun t x hx => ?_, fun _ _ h => h⟩)
    by_cases hwr : Wrote ops n listed t
    · rw [(hmix t).1 hwr]; exact hx
    · rw [(hmix t).2 hwr, ← hout t fun o ho he => hwr ?_]
      · exact hx
      · obtain ⟨i, hi⟩ := List.getElem?_of_mem ho
        have hin : i < n := by have := (List.getElem?_eq_some_iff.1 hi).1; simp at this; omega
        rw [List.getElem?_take_of_lt hin] at hi
        refine ⟨i, o, hin, ?_, by simpa using hi, he⟩
        have : i < listed.size := by rw [inv.size]; omega
        have h2 := hall i (by omega)
        simpa [this] using h2
  | succ fuel ih =>
    intro listed E' a w inv hf hmix hr
    by_cases hdone : ∀ j, j < n → listed.getD j true = true
    · -- the first n stand: the rest in order
      have hl : ∀ j, j < ops.size → listed.getD j true = decide (j < n) := fun j hj => by
        by_cases hjn : j < n
        · rw [hdone j hjn]; simp [hjn]
        · rw [inv.tail j (by omega) hj]; simp [hjn]
      have hcnt : ops.size - n ≤ fuel + 1 := by
        refine Nat.le_trans ?_ hf
        have hsub : ((List.range ops.size).filter fun j => !listed.getD j true) = (List.range ops.size).filter fun j => decide (n ≤ j) := by
          apply List.filter_congr
          intro j hj
          rw [hl j (List.mem_range.1 hj)]
          by_cases hjn : j < n
          · simp [hjn]
          · simp [hjn]; omega
        rw [hsub]
        have : ∀ N, N - n ≤ ((List.range N).filter fun j => decide (n ≤ j)).length := by
          intro N
          induction N with
          | zero => simp
          | succ N ihN =>
            rw [List.range_succ, List.filter_append, List.length_append]
            by_cases h : n ≤ N
            · simp [h]; omega
            · omega
        exact this _
      refine tail_any (s := ⟨s.N, F, s.σ⟩) (n := n) hw hc hn (fuel + 1) n listed a w (Nat.le_refl _) hnsz inv.size hl hcnt hop (hr.weak ⟨rfl, fun t x hx => ?_, fun _ _ h => h⟩)
      by_cases hwr : Wrote ops n listed t
      · rw [(hmix t).1 hwr]; exact hx
      · rw [(hmix t).2 hwr, ← hout t fun o ho he => hwr ?_]
        · exact hx
        · obtain ⟨i, hi⟩ := List.getElem?_of_mem ho
          have hin : i < n := by have := (List.getElem?_eq_some_iff.1 hi).1; simp at this; omega
          rw [List.getElem?_take_of_lt hin] at hi
          refine ⟨i, o, hin, ?_, by simpa using hi, he⟩
          have : i < listed.size := by rw [inv.size]; omega
          have h2 := hdone i hin
          simpa [this] using h2
    · obtain ⟨j0, hj0, hun0⟩ : ∃ j, j < n ∧ listed.getD j true = false := by
        apply Classical.byContradiction
        intro hno
        refine hdone fun j hj => ?_
        cases hl : listed.getD j true with
        | true => rfl
        | false => exact absurd ⟨j, hj, hl⟩ hno
      have hpre : ∀ i ∈ Region.ready .any ops listed, i < n := fun i hi => by
        rcases Nat.lt_or_ge i n with h | h
        · exact h
        · have hil : i < ops.size := by obtain ⟨_, o, ho, _⟩ := mem_ready.1 hi; exact (Array.getElem?_eq_some_iff.1 ho).1
          exact absurd hi (tail_waits (hs (by omega)) hc (by omega) inv _ j0 rfl hj0 hun0 i h)
      obtain ⟨j1, hj1, _⟩ := ready_least hw inv.size j0 (by omega) hun0
      refine ⟨fun h => (by rw [h] at hj1; cases hj1), fun i hi => ?_⟩
      have hin := hpre i hi
      obtain ⟨hui, o, ho, hall⟩ := mem_ready.1 hi
      obtain ⟨d, r, hd, hdN, hFd, hsl⟩ := hsol o (hmem hin ho)
      -- it looks at what stands already
      have hag : ∀ t ∈ o.looksAt ops, get F t = get E' t := fun t ht => by
        by_cases hwr : Wrote ops n listed t
        · exact ((hmix t).1 hwr).symm
        · rw [(hmix t).2 hwr, hout t fun q hq he => ?_]
          obtain ⟨j, hj⟩ := List.getElem?_of_mem hq
          have hjn : j < n := by have := (List.getElem?_eq_some_iff.1 hj).1; simp at this; omega
          rw [List.getElem?_take_of_lt hjn] at hj
          have hj' : ops[j]? = some q := by simpa using hj
          obtain ⟨e, he1, hb, hon⟩ := (waitB_spec hw ho).2 hin t ht j q hjn hj' he
          exact hwr ⟨j, q, hjn, by rw [← hon]; exact hall e he1 hb, hj', he⟩
      have hnext : ∀ a' w', RelE β ((⟨s.N, E', s.σ⟩ : St).put d r) a' w' → wpAny P .any ops Q fuel (listed.setIfInBounds i true) a' w' := fun a' w' hr' => by
        have hil : i < ops.size := (Array.getElem?_eq_some_iff.1 ho).1
        refine ih _ ((d, r) :: E') a' w' (inv.set hi hin) ?_ (fun t => ?_) hr'
        · have hlt : ((List.range ops.size).filter fun j => !(listed.setIfInBounds i true).getD j true).length < ((List.range ops.size).filter fun j => !listed.getD j true).length := by
            have e : ((List.range ops.size).filter fun j => !(listed.setIfInBounds i true).getD j true) = ((List.range ops.size).filter fun j => !listed.getD j true).filter (fun j => j != i) := by
              rw [List.filter_filter]
              apply List.filter_congr
              intro j hj
              by_cases hij : i = j
              · subst hij; simp [inv.size, hil]
              · rw [getD_set_ne true hij]; simp [Ne.symm hij]
            rw [e]
            refine List.length_filter_lt_length_iff_exists.2 ⟨i, List.mem_filter.2 ⟨List.mem_range.2 hil, by simp [hui]⟩, by simp⟩
          omega
        · have hset : (listed.setIfInBounds i true).getD i false = true := by simp [inv.size, hil]
          by_cases htd : t = d
          · subst htd
            exact ⟨fun _ => by rw [get_cons, if_pos rfl, hFd], fun h => absurd ⟨i, o, hin, hset, ho, hd⟩ h⟩
          · have hiff : Wrote ops n (listed.setIfInBounds i true) t ↔ Wrote ops n listed t := by
              constructor
              · rintro ⟨j, q, h1, h2, h3, h4⟩
                by_cases hij : i = j
                · subst hij
                  have : q = o := Option.some.inj (h3.symm.trans ho)
                  subst this
                  rw [hd] at h4
                  exact absurd (Option.some.inj h4).symm htd
                · exact ⟨j, q, h1, by rwa [getD_set_ne false hij] at h2, h3, h4⟩
              · rintro ⟨j, q, h1, h2, h3, h4⟩
                by_cases hij : i = j
                · subst hij; exact ⟨i, q, h1, hset, h3, h4⟩
                · exact ⟨j, q, h1, by rw [getD_set_ne false hij]; exact h2, h3, h4⟩
            rw [get_cons, if_neg htd, hiff]
            exact hmix t
      unfold wpOp
      simp only [ho]
      obtain ⟨ω, κ, hr'⟩ := id hr
      rcases hsl with ⟨hg, hq⟩ | ⟨hg, rfl⟩
      · rw [gdOf_congr hag] at hg
        rw [if_pos (gdOf_ok hr'.env hg)]
        exact .inl (qv_ok (s := ⟨s.N, E', s.σ⟩) (qv_congr (looks_opnd hag) hq) hd hdN hr hnext)
      · rw [gdOf_congr hag] at hg
        have hf' := gdOf_ok hr'.env hg
        rw [if_neg (by rw [hf']; simp), hd]
        exact hnext _ _ ⟨ω, κ, hr'.put hdN ⟨[], rfl, rfl, by simp⟩⟩

/-- What is asked of a region's form: the first n operations may stand in any order, the others follow. -/
def drawB (ops : Array Oper) (n : Nat) : Bool := waitB ops n && Region.chainB .any ops n && (decide (ops.size ≤ n) || Region.sinkB .any ops n) && decide (n ≤ ops.size) && lateB ops (ops.toList.take n)
/-- **A region whose order is open.** -/
theorem Sm.draw {id n : Nat} {ops : Array Oper} {K : Exit → St → Prop} (hm : P.follows .mixedOrders = true) (hb : drawB ops n = true)
    (h : qW P ops (ops.toList.take n) s fun s' => opsW P ops (ops.toList.drop n) s' (K .normal)) : Sm P (.region id ops true) s K := fun β a w hr => by
  simp only [drawB, Bool.and_eq_true, Bool.or_eq_true, decide_eq_true_eq] at hb
  obtain ⟨⟨⟨⟨hw, hc⟩, hs⟩, hnsz⟩, hl⟩ := hb
  obtain ⟨F, h1, h2, h3⟩ := qW_sol h hl
  refine wp_region_any hm ?_
  have hr' : RelE β s a { w with drawn := w.drawn + 1 } := by
    obtain ⟨ω, κ, hr⟩ := hr
    exact ⟨ω, κ, hr.grown ⟨rfl, rfl, rfl, Nat.le_refl _, fun _ _ _ => rfl⟩⟩
  have hg : ∀ j, (Array.replicate ops.size false).getD j false = false := fun j => getD_replicate_false _ _
  refine head_any (s := s) (F := F) hw hc (fun hlt => hs.resolve_left (by omega)) hnsz h2 h3 h1 (fun s' a' w' hk hr => ⟨s', hk, hr⟩) ops.size _ s.E a _ ⟨by simp, fun j oj hj hl => (by rw [hg] at hl; cases hl), fun t _ ht => (by simp [ht])⟩ ?_ (fun t => ⟨fun ⟨j, o, _, hj, _⟩ => (by rw [hg] at hj; cases hj), fun _ => rfl⟩) hr'
  refine Nat.le_trans (List.length_filter_le _ _) (by simp)
end
end Go.VC
