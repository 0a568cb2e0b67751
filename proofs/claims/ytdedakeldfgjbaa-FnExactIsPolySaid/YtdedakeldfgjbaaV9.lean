/- Each operation does in the machine what it comes to in a frame. -/
import Derived.Test.YtdedakeldfgjbaaV8
set_option linter.unusedSimpArgs false
set_option linter.unusedVariables false
namespace Go.VC
open Go Go.RowKit
section
variable {w w' : World} {D D' D0 : Nat → Prop} {κ κ' : Nat → Value} {σ : Sto} {E : Env} {a : Act} {B : Nat} {w0 : World} {s : St} {P : Program}

theorem hasL_ofC (d : Nat) (l : List Value) : hasL d (l.map ofC) = false := by
  induction l with
  | nil => rfl
  | cons v r ih =>
    have : (ofC v).has d = false := by
      unfold ofC
      split
      · rename_i x h
        unfold ofV at h
        split at h
        · injection h with h; injection h with h; subst h; rfl
        · split at h
          · injection h with h; injection h with h; subst h; rfl
          · cases h
      · rfl
    simp [hasL, this, ih]
theorem All2_ofC (l : List Value) : All2 (RC w D κ σ) (l.map ofC) l := ⟨by simp, fun j x y hx hy => by
  rw [List.getElem?_map, hy] at hx
  obtain rfl := Option.some.inj hx
  exact ofC_ok y⟩

/-- A new variable. -/
theorem Rel.box (h : Rel B D0 w0 D κ s a w) {d : Nat} {t : TypeId} {cs : List Cell} {vs : Array Value} (hd : d < s.N) (h1 : noE d s.E = true) (h2 : noS d s.σ = true) (hc : hasL d cs = false) (hv : All2 (RC w D κ s.σ) cs vs.toList) (ho : ∀ u ∈ vs.toList, u.oneCell' = true) :
    RelE B D0 w0 ⟨s.N, (d, .c (.rf d 0)) :: s.E, (d, .box t cs) :: s.σ⟩ (a.put (some d) (.pointer (some ⟨w.heap.size, 0, none⟩))) (w.alloc (.cells vs t)) := by
  have hB : B ≤ w.heap.size := by rw [h.low]; exact h.below.size
  refine ⟨D, _, h.newObj hd ⟨h1, h2⟩ (World.grownBy_alloc w _ none) (below_of_grown (World.grownBy_alloc w _ none) hB) (fun b hb => by simp [blk] at hb; omega) (fun t' cs' he => ?_) (fun _ _ _ _ he => by cases he) (.inl ⟨t, cs, rfl, rfl⟩)⟩
  injection he with q1 q2
  subst q1; subst q2
  exact ⟨w.heap.size, vs, rfl, hB, heap_alloc_new w _, hc, hv, ho⟩

theorem noE_opd {d : Nat} (h : noE d E = true) {x : Operand} {r : TV} (hx : opd E x = some r) : r.has d = false := by
  cases x with
  | tmp t => exact noE_get h hx
  | const v =>
    simp only [opd, ofV] at hx
    split at hx
    · obtain rfl := Option.some.inj hx; rfl
    · split at hx
      · obtain rfl := Option.some.inj hx; rfl
      · cases hx
  | func f => obtain rfl := Option.some.inj hx; rfl
  | global g => cases hx

theorem upon_put_none (a : Act) (v : Value) : a.put none v = a := rfl

theorem wpO_ok {o : Oper} {K : St → Prop} {next : Act → World → Prop} {Q : Exit → Act → World → Prop} (h : wpO P o s K) (hr : RelE B D0 w0 s a w)
    (hn : ∀ s' a' w', K s' → RelE B D0 w0 s' a' w' → next a' w') : o.wp P a w next Q := by
  obtain ⟨D, κ, hr⟩ := hr
  have hB : B ≤ w.heap.size := by rw [hr.low]; exact hr.below.size
  unfold wpO onS at h
  split at h <;> rename_i hop hdst
  -- store
  · rename_i t x v
    split at h
    · rename_i k off news n hx hnews hn'
      obtain ⟨vv, hv, hcs⟩ := Option.bind_eq_some_iff.1 hnews
      obtain ⟨hc1, hc2⟩ := cellsT_ok hcs (opd_ok hr.env hv)
      have hxv := opd_ok hr.env hx
      split at h
      · rename_i t' cs hk
        obtain ⟨h1, h2, h3⟩ := h
        obtain ⟨b, w', e1, e2, e3⟩ := hr.stBox hk hc1 hc2 h2 P
        refine wp_skip1 (w' := w') ?_ (by rw [hdst]; exact hn _ _ _ h3 ⟨D, κ, e3⟩)
        generalize hav : a.eval x = va at hxv
        cases hxv with
        | rf _ _ b' hb' =>
          have : b = b' := by rw [e1] at hb'; simpa using hb'
          subst this
          have hsz : (a.eval v).cells.size = n := by have := hc1.1; simp at this; omega
          simp [execOp, hop, hav, Instr.storeAt, Instr.sureAddr, storeVar, run_sizeOf hn', hsz, e2]
      · exact h.elim
    · rename_i k len off news n hx hnews hn'
      obtain ⟨vv, hv, hcs⟩ := Option.bind_eq_some_iff.1 hnews
      obtain ⟨hc1, hc2⟩ := cellsT_ok hcs (opd_ok hr.env hv)
      have hxv := opd_ok hr.env hx
      split at h
      · rename_i t' e m cs ys hk hys
        obtain ⟨h1, h2, h3, h4, h5, h6⟩ := h
        obtain ⟨b, n', c, w', e1, e2, e3⟩ := hr.stVec hk (toIVs_ok h5 hc1) h4 P h3
        refine wp_skip1 (w' := w') ?_ (by rw [hdst]; exact hn _ _ _ h6 ⟨D, κ, e3⟩)
        generalize hav : a.eval x = va at hxv
        cases hxv with
        | rv _ _ _ ad hh =>
          obtain ⟨b', n'', c', q1, rfl⟩ := (hh _ _ _ _ hk).2 h2
          have : b = b' := by rw [e1] at q1; injection q1 with q _ _; injection q with q; injection q
          subst this
          have hsz : (a.eval v).cells.size = n := by have := hc1.1; simp at this; omega
          simp [execOp, hop, hav, Instr.storeAt, Instr.sureAddr, storeVar, run_sizeOf hn', hsz, e2]
      · exact h.elim
    · exact h.elim
  -- box
  · rename_i t x d
    split at h
    · rename_i cs hcs
      obtain ⟨h1, h2, h3, h4, h5⟩ := h
      obtain ⟨vv, hv, hcs'⟩ := Option.bind_eq_some_iff.1 hcs
      obtain ⟨hc1, hc2⟩ := cellsT_ok hcs' (opd_ok hr.env hv)
      refine wp_value (v := .pointer (some ⟨w.heap.size, 0, none⟩)) (w' := w.alloc (.cells (a.eval x).cells t)) ?_ (by rw [hdst]; exact hn _ _ _ h5 (hr.box h1 h2 h3 h4 hc1 hc2))
      simp [execOp, hop, Instr.box, newVar, newRow]
    · exact h.elim
  -- alloc
  · rename_i t d
    split at h
    · rename_i zs hz
      obtain ⟨h1, h2, h3, h5⟩ := h
      unfold wpO.zvOf at hz
      split at hz
      · rename_i i hi
        split at hz
        · rename_i z hzz
          split at hz
          · rename_i hone
            obtain rfl := Option.some.inj hz
            refine wp_value (v := .pointer (some ⟨w.heap.size, 0, none⟩)) (w' := w.alloc (.cells z.cells t)) ?_ (by
              rw [hdst]
              exact hn _ _ _ h5 (hr.box h1 h2 h3 (hasL_ofC d _) (All2_ofC _) fun u hu => Array.all_eq_true_iff_forall_mem.1 hone u (by simpa using hu)))
            simp [execOp, hop, Instr.alloc, zeroValue, typeInfo, hi, hzz, newVar, newRow]
          · cases hz
        · cases hz
      · cases hz
    · exact h.elim
  -- buildSlice
  · rename_i t n ps d
    split at h
    · rename_i e sz by_ zs qs hap hqs
      obtain ⟨i, z, hu, hi, hz, hzs, hpos, rfl, rfl, rfl, hone⟩ := apOf_some hap
      split at h
      · rename_i ys hys
        obtain ⟨h1, h2, h3⟩ := h
        obtain ⟨cs, hcs, hys⟩ := Option.bind_eq_some_iff.1 hys
        have hz0 : All2 (RC w D κ s.σ) (bsCells n i.size z.cells.toList) ((Array.range (n * i.size)).map fun j => z.cells[j % z.cells.size]!).toList := by
          refine ⟨by simp [bsCells], fun j x y hx hy => ?_⟩
          simp only [bsCells, List.getElem?_map] at hx
          obtain ⟨q, hq, rfl⟩ := Option.map_eq_some_iff.1 hx
          obtain ⟨hj, hq'⟩ := List.getElem?_eq_some_iff.1 hq
          simp at hj hq'
          subst hq'
          have hm : j % i.size < z.cells.size := by rw [hzs]; exact Nat.mod_lt _ hpos
          have : y = z.cells[j % i.size] := by
            simp [hj] at hy
            rw [← hy, hzs]; exact getElem!_pos z.cells _ hm
          rw [this]
          have e : z.cells.toList.getD (j % i.size) undef = z.cells[j % i.size] := by simp [List.getD, hm]
          rw [e]
          exact ofC_ok _
        have hz1 : ∀ u ∈ ((Array.range (n * i.size)).map fun j => z.cells[j % z.cells.size]!).toList, u.oneCell' = true := fun u hu => by
          simp only [Array.toList_map, List.mem_map] at hu
          obtain ⟨j, _, rfl⟩ := hu
          have hm : j % i.size < z.cells.size := by rw [hzs]; exact Nat.mod_lt _ hpos
          exact hone _ (by rw [hzs, getElem!_pos z.cells _ hm]; simp)
        obtain ⟨vs, g1, g2, g3⟩ := fillC_ok (place := fun j => some (j * i.size, i.size)) (fun j q hq => by
          rw [List.getElem?_map] at hq
          obtain ⟨j', hj', rfl⟩ := Option.map_eq_some_iff.1 hq
          obtain ⟨_, hq'⟩ := List.getElem?_eq_some_iff.1 hj'
          simp at hq'; subst hq'; rfl) (opds_ok hr.env hqs) hz0 hz1 hcs
        have hrun : (execOp a.eval o).run P w = .ok (.value (.slice (some ⟨w.heap.size, 0, none⟩) n n)) (w.alloc (.cells vs e)) := by
          have hfill : Instr.fill (fun j => some (j * i.size, i.size)) ((Array.range (n * i.size)).map fun j => z.cells[j % z.cells.size]!) (ps.toList.map fun p => (p.1, a.eval p.2)) = some vs := g1
          have hs24 : ¬ (16777216 < n * i.size) := by omega
          by_cases hn0 : n * i.size = 0
          · have hr0 : ∀ f : Nat → Value, (Array.range 0).map f = #[] := fun f => by apply Array.ext'; simp
            have hfill' : Instr.fill (fun j => some (j * i.size, i.size)) #[] (ps.toList.map fun p => (p.1, a.eval p.2)) = some vs := by rw [hn0, hr0] at hfill; exact hfill
            simp [execOp, hop, Instr.buildSlice, run_underlying hu, sizeOf, typeInfo, hi, hn0, hr0, hfill', newRow]
          · simp [execOp, hop, Instr.buildSlice, run_underlying hu, sizeOf, typeInfo, hi, hn0, zeroValue, hz, hs24, hfill, newRow]
        have hyv := toIVs_ok hys g2
        by_cases hn0 : n = 0
        · subst hn0
          rw [if_pos rfl] at h3
          obtain ⟨h4, h5, h6⟩ := h3
          refine wp_value hrun (by
            rw [hdst]
            refine hn _ _ _ h6 ⟨D, _, hr.newObj (v := .slice (some ⟨w.heap.size, 0, none⟩) 0 0) h1 ⟨h4, h5⟩ (World.grownBy_alloc w _ none) (below_of_grown (World.grownBy_alloc w _ none) hB) (fun b hb => by simp [blk] at hb; omega) (fun _ _ he => by cases he) (fun t' e' n' cs' he => ?_) (.inr ⟨e, i.size, 0, [], some ⟨w.heap.size, 0, none⟩, 0, rfl, rfl, rfl⟩)⟩
            injection he with q1 q2 q3 q4
            subst q1; subst q2; subst q3; subst q4
            refine ⟨hpos, [], ⟨by simp, .inr ⟨w.heap.size, 0, vs, rfl, hB, heap_alloc_new w _, Nat.le_refl _, by simp [maxLen], ?_, by simp⟩⟩, ⟨rfl, by simp⟩⟩
            have hl : cs.length = vs.size := by have := g2.1; simpa using this
            have hl2 : ∀ {pl : List (Nat × Nat)} {c c' : List Cell} {q : List (Nat × TV)}, fillC pl c q = some c' → c'.length = c.length := by
              intro pl c c' q
              induction q generalizing c with
              | nil => intro hh; obtain rfl := Option.some.inj hh; rfl
              | cons p r ih =>
                intro hh
                obtain ⟨pi, px⟩ := p
                simp only [fillC] at hh
                split at hh
                · split at hh
                  · rw [ih hh, setL_len]
                  · cases hh
                · cases hh
            have := hl2 hcs
            simp [bsCells] at this
            simp [this] at hl
            omega)
        · rw [if_neg hn0] at h3
          refine wp_value hrun (by
            rw [hdst]
            have h4 : Rel B D0 w0 (fun b => D b ∨ b = w.heap.size) κ s a (w.alloc (.cells vs e)) := hr.grown (World.grownBy_alloc w _ none) (fun _ h => .inl h) (fun b hb => by
              rcases hb with hb | rfl
              · exact .inl hb
              · exact .inr ⟨Nat.le_refl _, by simp⟩)
            refine hn _ _ _ h3 ⟨_, κ, h4.put h1 (.ik _ _ _ _ (.sl _ _ _ ⟨w.heap.size, 0, none⟩ (fun j => vs.toList.getD j undef) (fun _ => .inr rfl) (Nat.le_refl _) ?_ (fun j hj => ?_) fun j x hx => ?_))⟩
            · have : n ≤ n * i.size := Nat.le_mul_of_pos_right _ hpos
              simp [maxLen]; omega
            · have hjl : j < vs.size := by have := hyv.1; simp at this; omega
              rw [Addr.add_lit, Nat.zero_add, cell_row (heap_alloc_new w _)]
              simp [List.getD, hjl]
            · obtain ⟨u, hu', hr'⟩ := hyv.get hx
              have : vs.toList.getD j undef = u := by rw [List.getD, hu']; rfl
              rw [this]
              exact hr'.kept (fun _ h => .inl h) fun b hb => heap_alloc_old w _ (hr.rs.dom b hb))
      · exact h.elim
    · exact h.elim
  -- makeSlice
  · rename_i t l c d
    split at h
    · rename_i e sz by_ zs kl n kc n' hap hl hc
      obtain ⟨i, z, hu, hi, hz, hzs, hpos, rfl, rfl, rfl, hone⟩ := apOf_some hap
      split at h
      · rename_i ys hys
        obtain ⟨h1, h2, h3, h4, h5, h6, h7, h8⟩ := h
        subst h3
        obtain ⟨nn, rfl⟩ := Int.eq_ofNat_of_zero_le h2
        simp only [Int.toNat_natCast] at h4 h5 h8
        have hlv := opd_ok hr.env hl
        have hcv := opd_ok hr.env hc
        generalize hl' : a.eval l = lv at hlv
        generalize hc' : a.eval c = cv at hcv
        cases hlv with
        | im _ _ hlv =>
          cases hlv
          cases hcv with
          | im _ _ hcv =>
            cases hcv
            obtain ⟨w', g1, g2, g3⟩ := run_make_full (P := P) w B t e i z i.size hu hi hz rfl kl kc nn (by omega) h5 hB
            refine wp_value (v := .slice (some ⟨w.heap.size, 0, none⟩) nn nn) (w' := w') (by simp [execOp, hop, hl', hc', g1]) ?_
            rw [hdst]
            refine hn _ _ _ h8 ⟨D, _, hr.newObj (v := .slice (some ⟨w.heap.size, 0, none⟩) nn nn) h1 ⟨h6, h7⟩ g3 (below_of_grown g3 hB) (fun b hb => by simp [blk] at hb; omega) (fun _ _ he => by cases he) (fun t' e' n' cs' he => ?_) (.inr ⟨e, i.size, nn, _, some ⟨w.heap.size, 0, none⟩, nn, rfl, rfl, rfl⟩)⟩
            injection he with q1 q2 q3 q4
            subst q1; subst q2; subst q3; subst q4
            exact ⟨hpos, _, g2, made_ok hzs hys⟩
      · exact h.elim
    · exact h.elim
  -- call
  · rename_i c d
    split at h
    · rename_i x y t t' hcal hargs htys
      have e1 : c.args = #[x, y] := by apply Array.ext'; simpa using hargs
      have e2 : c.argTypes = #[t, t'] := by apply Array.ext'; simpa using htys
      split at h
      · rename_i e sz by_ zs k n m ys hap hx hy
        obtain ⟨yv, hyv, hsrc⟩ := Option.bind_eq_some_iff.1 hy
        split at h
        · rename_i e' sz' n' cs hk
          obtain ⟨rfl, rfl, rfl, rfl, hd, hl, h63, hby, hK⟩ := h
          obtain ⟨ad, cc, vs, hev, hya, hnil, hcell⟩ := srcOf_ok hr.rs hsrc (opd_ok hr.env hyv)
          have hxv := opd_ok hr.env hx
          generalize hxe : a.eval x = xv at hxv
          cases hxv with
          | os _ _ ad' c' hh =>
            have hkk := (hh _ _ _ _ hk).2 rfl
            obtain ⟨v', w', κ', g1, g2, g3, ad2, c2, g4⟩ := hr.append (ty := o.type) hap hk hya (fun hn => ⟨(hnil hn).1, (hnil hn).2.1⟩) hl hcell h63 hby
            refine wp_value (v := v') (w' := w') ?_ ?_
            · rw [hkk] at g1
              simp [execOp, hop, resolve, hcal, e1, e2, hxe, hev, invoke, builtin, g1]
            · rw [hdst]
              refine hn _ _ _ hK ⟨D, κ', g2.put hd ?_⟩
              rw [g4]
              refine .os _ _ _ _ fun t'' e'' m'' cs'' hg => ?_
              simp only at hg
              rw [get_upd _ _ _ _ (by rw [hk]; rfl), if_pos rfl] at hg
              injection hg with hg
              injection hg with _ _ q _
              exact ⟨by omega, fun _ => by rw [g3, g4]⟩
        · exact h.elim
      · rename_i e sz by_ zs m ys hap hx hy
        obtain ⟨yv, hyv, hsrc⟩ := Option.bind_eq_some_iff.1 hy
        obtain ⟨rfl, hd, hno1, hno2, hl, h63, hby, hK⟩ := h
        obtain ⟨i, z, hu, hi, hz, hzs, hpos, rfl, rfl, rfl, hone⟩ := apOf_some hap
        obtain ⟨ad, cc, vs, hev, hya, hnil, hcell⟩ := srcOf_ok hr.rs hsrc (opd_ok hr.env hyv)
        have hxv := opd_ok hr.env hx
        generalize hxe : a.eval x = xv at hxv
        cases hxv with
        | nl =>
          obtain ⟨v', w', g1, g2, g3, _, g5⟩ := append_blk (P := P) (ty := o.type) hu hi hz hzs hpos (World.ownsRow_nil w B e i.size) ad m cc vs (fun hn => ⟨(hnil hn).1, (hnil hn).2.1⟩) (by rw [← hya.1]; exact hl) hcell hya.one (by omega) (by simpa using hby) hB
          simp only [Nat.zero_add, List.nil_append] at g2
          have g3' : w.grownBy w' none := ⟨g3.os, g3.tape, g3.output, g3.size, fun k hk _ => g3.block k hk (by simp [Value.ownBlock])⟩
          obtain ⟨ad2, c2, hsl⟩ := ownsRow_slice g2
          refine wp_value (v := v') (w' := w') ?_ ?_
          · simp [execOp, hop, resolve, hcal, e1, e2, hxe, hev, invoke, builtin, g1]
          · rw [hdst]
            refine hn _ _ _ hK ⟨D, _, hr.newObj (v := v') hd ⟨hno1, hno2⟩ g3' (below_of_grown g3' hB) (fun b hb => ?_) (fun _ _ he => by cases he) (fun t' e' n' cs' he => ?_) (.inr ⟨e, i.size, m, ys, ad2, c2, rfl, rfl, hsl⟩)⟩
            · rw [hsl, blk_slice, ← hsl] at hb
              rcases g5 b hb with h | h
              · simp [Value.ownBlock] at h
              · exact h
            · injection he with q1 q2 q3 q4
              subst q1; subst q2; subst q3; subst q4
              exact ⟨hpos, vs, g2, hya.imp fun x y _ hxy => hxy.kept (fun _ h => h) fun b hb => g3'.block b (hr.rs.dom b hb) (by simp)⟩
      · rename_i e sz by_ zs c0 n cs m ys hap hx hy
        obtain ⟨yv, hyv, hsrc⟩ := Option.bind_eq_some_iff.1 hy
        obtain ⟨rfl, hcap, hcl, hd, hno1, hno2, hl, h63, hby, hK⟩ := h
        obtain ⟨i, z, hu, hi, hz, hzs, hpos, rfl, rfl, rfl, hone⟩ := apOf_some hap
        obtain ⟨ad, cc, vs, hev, hya, hnil, hcell⟩ := srcOf_ok hr.rs hsrc (opd_ok hr.env hyv)
        have hxv := opd_ok hr.env hx
        generalize hxe : a.eval x = xv at hxv
        cases hxv with
        | ik _ _ _ adx hxv =>
          -- the source is somewhere: something is appended, for the capacity is exceeded
          obtain ⟨adx', cx, us, hev2, hua, hnil2, hcell2⟩ := srcOf_ok (x := .c (.im (.sl n cs))) (m := n) (ys := cs) hr.rs rfl (.im _ _ hxv)
          injection hev2 with q1 _ q3
          subst q1; subst q3
          have hn0 : n ≤ c0 := by cases hxv <;> omega
          have hm0 : 0 < m := by omega
          cases ad with
          | none => have := (hnil rfl).1; omega
          | some ad =>
            have hmain : ∃ w' cap', (Builtin.append_ #[t', t'] o.type #[.slice adx n c0, .slice (some ad) m cc]).run P w = .ok (.slice (some ⟨w.heap.size, 0, none⟩) (n + m) cap') w' ∧
                w'.ownsRow B e i.size (.slice (some ⟨w.heap.size, 0, none⟩) (n + m) cap') (n + m) (us ++ vs) ∧ w.grownBy w' none := by
              have hown : ∀ old, old < n + m → ∀ w', w' = (w.drew.alloc (.cells (us.toArray ++ vs.toArray ++ Builtin.zeroCells z.cells (grownCap w (n + m) old e - (n + m))) e)) →
                  w'.ownsRow B e i.size (.slice (some ⟨w.heap.size, 0, none⟩) (n + m) (grownCap w (n + m) old e)) (n + m) (us ++ vs) ∧ w.grownBy w' none := by
                intro old ho w' hw'
                subst hw'
                have hge := grownCap_ge w (n + m) old e
                have hcm : grownCap w (n + m) old e ≤ maxLen := grownCap_le_maxLen w (n + m) old e h63
                have hlen : (us ++ vs).length = (n + m) * i.size := by rw [List.length_append, ← hua.1, ← hya.1, hcl, hl, Nat.add_mul]
                refine ⟨⟨hlen, .inr ⟨w.heap.size, _, _, rfl, hB, heap_alloc_new w.drew _, hge, hcm, ?_, ?_⟩⟩, ⟨rfl, rfl, rfl, by simp, fun k hk _ => heap_alloc_old w.drew _ (by simpa using hk)⟩⟩
                · simp only [Array.size_append, List.size_toArray, size_zeroCells, hzs]
                  rw [← hua.1, ← hya.1, hcl, hl, ← Nat.add_mul, ← Nat.add_mul]
                  congr 1
                  omega
                · simp only [Array.toList_append, List.append_assoc]
                  rw [← List.append_assoc, ← hlen]
                  exact List.take_left
              have hsm : n + m ≤ 9223372036854775807 := by simp only [maxLen] at h63; omega
              cases adx with
              | none =>
                obtain ⟨rfl, rfl, rfl⟩ := hnil2 rfl
                have hus : us = [] := List.eq_nil_of_length_eq_zero (by rw [← hua.1]; rfl)
                subst hus
                have hr0 := run_append_nil (P := P) (ty := o.type) w t' e i z hu hi hz ad m cc vs (by rw [← hya.1]; exact hl) (hcell ad rfl) hm0 (by omega) (by rw [Nat.zero_add] at hby; omega)
                have := hown 0 (by omega) _ rfl
                simp only [Nat.zero_add, List.nil_append, Array.empty_append] at this ⊢
                exact ⟨_, _, hr0, this.1, this.2⟩
              | some adx =>
                have hr0 := run_append_grow (P := P) (ty := o.type) w t' e i z hu hi hz adx n c0 us (by rw [← hua.1]; exact hcl) (hcell2 adx rfl) ad m cc vs (by rw [← hya.1]; exact hl) (hcell ad rfl) hcap (by omega) (growslice_fits (by omega) hby)
                have := hown c0 hcap _ rfl
                exact ⟨_, _, hr0, this.1, this.2⟩
            obtain ⟨w', cap', g1, g2, g3⟩ := hmain
            refine wp_value (v := .slice (some ⟨w.heap.size, 0, none⟩) (n + m) cap') (w' := w') ?_ ?_
            · simp [execOp, hop, resolve, hcal, e1, e2, hxe, hev, invoke, builtin, g1]
            · rw [hdst]
              refine hn _ _ _ hK ⟨D, _, hr.newObj (v := .slice (some ⟨w.heap.size, 0, none⟩) (n + m) cap') hd ⟨hno1, hno2⟩ g3 (below_of_grown g3 hB) (fun b hb => by simp [blk] at hb; omega) (fun _ _ he => by cases he) (fun t' e' n' cs' he => ?_) (.inr ⟨e, i.size, n + m, cs ++ ys, some ⟨w.heap.size, 0, none⟩, cap', rfl, rfl, rfl⟩)⟩
              injection he with q1 q2 q3 q4
              subst q1; subst q2; subst q3; subst q4
              have hDw : ∀ b, D b → w'.heap[b]? = w.heap[b]? := fun b hb => g3.block b (hr.rs.dom b hb) (by simp)
              exact ⟨hpos, us ++ vs, g2, (hua.imp fun x y _ hxy => hxy.kept (fun _ h => h) hDw).append (hya.imp fun x y _ hxy => hxy.kept (fun _ h => h) hDw)⟩
      · exact h.elim
    · rename_i x t hcal hargs htys
      have e1 : c.args = #[x] := by apply Array.ext'; simpa using hargs
      have e2 : c.argTypes = #[t] := by apply Array.ext'; simpa using htys
      split at h
      · rename_i r hr'
        obtain ⟨p, hp, hev⟩ := Option.bind_eq_some_iff.1 hr'
        obtain ⟨u, g1, g2⟩ := evLen_ok (P := P) (ty := o.type) hev (opd_ok hr.env hp)
        refine wp_value (v := u) (w' := w) ?_ (by rw [hdst]; exact hn _ _ _ h.2 ⟨D, κ, hr.put h.1 g2⟩)
        simp [execOp, hop, resolve, hcal, e1, e2, invoke, builtin, g1]
      · exact h.elim
    · rename_i f hcal
      split at h
      · rename_i g caps xs hf hxs
        obtain ⟨x, hx, hg⟩ := Option.bind_eq_some_iff.1 hf
        rcases h with h | h
        · exact wpCall_ok hop hcal rfl hdst hr hx hg hxs h hn
        · obtain ⟨D1, h1⟩ := hr.frzAll (keysOf s.E c.args.toList)
          exact wpCallM_ok hop hcal rfl hdst h1 h hn
      · exact h.elim
    · exact h.elim
  -- the others
  · rename_i u1 u2 d hdst' u3 u4 u5
    split at h
    · rename_i r hr'
      obtain ⟨u, g1, g2⟩ := ev1_ok (P := P) (o := o) hr.rs hr.env hr'
      exact wp_value g1 (by rw [hdst']; exact hn _ _ _ h.2 ⟨D, κ, hr.put h.1 g2⟩)
    · exact h.elim
  · exact h.elim
end
end Go.VC
