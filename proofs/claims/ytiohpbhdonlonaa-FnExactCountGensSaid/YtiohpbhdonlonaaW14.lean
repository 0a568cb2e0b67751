/- Each operation: the theorem. -/
import Derived.Test.YtiohpbhdonlonaaW13
set_option linter.unusedSimpArgs false
set_option linter.unusedVariables false
namespace Go.VC
open Go Go.RowKit
section
variable {β : Base} {w w' : World} {ω ω' : Lab} {κ κ' : Nat → Value} {σ σ' : Sto} {E : Env} {a : Act} {s : St} {P : Program}

theorem wpO_ok {o : Oper} {K : St → Prop} {next : Act → World → Prop} {Q : Exit → Act → World → Prop} (h : wpO P o s K) (hr : RelE β s a w)
    (hn : ∀ s' a' w', K s' → RelE β s' a' w' → next a' w') : o.wp P a w next Q := by
  obtain ⟨ω, κ, hr⟩ := hr
  have hev : ∀ {r : TV} {d : Nat}, o.dst = some d → ev1 P s.E s.σ o.op = some r → d < s.N → K (s.put d r) → o.wp P a w next Q := fun hd he hdN hK => by
    obtain ⟨u, g1, g2⟩ := ev1_ok (P := P) (o := o) hr.rs hr.env he
    exact wp_value g1 (by rw [hd]; exact hn _ _ _ hK ⟨ω, κ, hr.put hdN g2⟩)
  unfold wpO onS at h
  split at h <;> rename_i hop hdst
  -- store
  · rename_i t x v
    split at h
    · rename_i k off news n hx hnews hn'
      obtain ⟨vv, hv, hcs⟩ := Option.bind_eq_some_iff.1 hnews
      obtain ⟨hc1, hc2, hc3⟩ := cellsT_ok hcs (opd_ok hr.env hv)
      have hxv := opd_ok hr.env hx
      split at h
      · rename_i t' cs hk
        obtain ⟨h1, h2, h3, h4⟩ := h
        obtain ⟨b, w', e1, e2, e3⟩ := hr.stBox hk hc1 hc2 hc3 h2 h3 P
        refine wp_skip1 (w' := w') ?_ (by rw [hdst]; exact hn _ _ _ h4 ⟨ω, κ, e3⟩)
        generalize hav : a.eval x = va at hxv
        cases hxv with
        | rf _ _ b' hb' =>
          have : b = b' := by rw [e1] at hb'; simpa using hb'
          subst this
          have hsz : (a.eval v).cells.size = n := by have := hc1.1; simp at this; omega
          simp [execOp, hop, hav, Instr.storeAt, Instr.sureAddr, storeVar, run_sizeOf hn', hsz, e2]
      · exact h.elim
    · rename_i k len off news n hx hnews hn'
      obtain ⟨vv, hv, hcs⟩ := Option.bind_eq_some_iff.1 hnews
      obtain ⟨hc1, hc2, hc3⟩ := cellsT_ok hcs (opd_ok hr.env hv)
      have hxv := opd_ok hr.env hx
      have fin : ∀ (ob : Ob) (m : Nat) {b n' c : Nat} {w1 : World} {s1 : St} {ω1 : Lab}, get s.σ k = some ob → ob.len? = some m → m = len → n = news.length → κ k = .slice (some ⟨b, 0, none⟩) n' c → (storeCells ⟨b, off, none⟩ (a.eval v).cells.toList).run P w = .ok () w1 →
          Rel β ω1 κ s1 a w1 → K s1 → o.wp P a w next Q := fun ob m b n' c w1 s1 ω1 hk hm hml hnl e1 e2 e3 hK => by
        refine wp_skip1 (w' := w1) ?_ (by rw [hdst]; exact hn _ _ _ hK ⟨ω1, κ, e3⟩)
        generalize hav : a.eval x = va at hxv
        cases hxv with
        | rv _ _ _ ad hh =>
          obtain ⟨b', n'', c', q1, rfl⟩ := (hh _ _ hk hm).2 hml
          have : b = b' := by rw [e1] at q1; injection q1 with q _ _; injection q with q; injection q
          subst this
          have hsz : (a.eval v).cells.size = n := by have := hc1.1; simp at this; omega
          simp [execOp, hop, hav, Instr.storeAt, Instr.sureAddr, storeVar, run_sizeOf hn', hsz, e2]
      split at h
      · rename_i t' e m cs hk
        split at h
        · rename_i ys ks hys
          obtain ⟨h1, h2, h3, h4, h5, h6, h7⟩ := h
          obtain ⟨b, n', c, w', e1, e2, e3⟩ := hr.stVec hk (ownC_ok hr.rs hys hc1) h5 h4 P h3 h6
          exact fin _ m hk rfl h2 h1 e1 e2 e3 h7
        · exact h.elim
      · rename_i t' e m cs hk
        split at h
        · rename_i ys hys
          obtain ⟨h1, h2, h3, h4, h6, h7⟩ := h
          obtain ⟨b, n', c, w', e1, e2, e3⟩ := hr.stVec (own := false) (ks := []) hk (toIVs_ok hys hc1) (by simp) h4 P h3 h6
          exact fin _ m hk rfl h2 h1 e1 e2 e3 h7
        · exact h.elim
      · rename_i m cs hk
        split at h
        · rename_i ys ks hys
          obtain ⟨h1, h2, h3, h4, h5, h6, h7⟩ := h
          obtain ⟨b, n', c, w', e1, e2, e3⟩ := hr.stFix hk (ownC_ok hr.rs hys hc1) h5 h4 P h3 h6
          exact fin _ m hk rfl h2 h1 e1 e2 e3 h7
        · exact h.elim
      · exact h.elim
    · exact h.elim
  -- box
  · rename_i t x d
    split at h
    · rename_i cs hcs
      obtain ⟨h1, h2, h3, h4, h5⟩ := h
      obtain ⟨vv, hv, hcs'⟩ := Option.bind_eq_some_iff.1 hcs
      obtain ⟨hc1, hc2, hc3⟩ := cellsT_ok hcs' (opd_ok hr.env hv)
      have hb := hr.newBox (k := 2 * d) (t := t) (hr.even d) h2 h3 h4 hc1 hc2 hc3
      refine wp_value (v := .pointer (some ⟨w.heap.size, 0, none⟩)) (w' := w.alloc (.cells (a.eval x).cells t)) ?_ (by rw [hdst]; exact hn _ _ _ h5 ⟨_, _, hb.put h1 (.rf _ _ _ (setK_eq _ _ _))⟩)
      simp [execOp, hop, Instr.box, newVar, newRow]
    · exact h.elim
  -- alloc
  · rename_i t d
    split at h
    · rename_i zs hz
      obtain ⟨h1, h2, h3, h5⟩ := h
      unfold wpO.zvOf at hz
      split at hz
      · rename_i i hi
        split at hz
        · rename_i z hzz
          split at hz
          · rename_i hone
            obtain rfl := Option.some.inj hz
            have hb := hr.newBox (k := 2 * d) (t := t) (cs := z.cells.toList.map ofC) (vs := z.cells) (hr.even d) h2 h3 (hasL_ofC _ _) (All2_ofC _) (fun u hu => Array.all_eq_true_iff_forall_mem.1 hone u (by simpa using hu)) (anyNL_ofC _)
            refine wp_value (v := .pointer (some ⟨w.heap.size, 0, none⟩)) (w' := w.alloc (.cells z.cells t)) ?_ (by rw [hdst]; exact hn _ _ _ h5 ⟨_, _, hb.put h1 (.rf _ _ _ (setK_eq _ _ _))⟩)
            simp [execOp, hop, Instr.alloc, zeroValue, typeInfo, hi, hzz, newVar, newRow]
          · cases hz
        · cases hz
      · cases hz
    · exact h.elim
  -- buildSlice
  · rename_i t n ps d
    split at h
    · rename_i e sz by_ zs qs hap hqs
      obtain ⟨i, z, hu, hi, hz, hzs, hpos, rfl, rfl, rfl, hone⟩ := apOf_some hap
      split at h
      · rename_i cs hcs
        obtain ⟨h1, h2, h3, h4, h5⟩ := h
        have hz0 : All2 (RC w ω κ s.σ) (bsCells n i.size z.cells.toList) ((Array.range (n * i.size)).map fun j => z.cells[j % z.cells.size]!).toList := by
          refine ⟨by simp [bsCells], fun j x y hx hy => ?_⟩
          simp only [bsCells, List.getElem?_map] at hx
          obtain ⟨q, hq, rfl⟩ := Option.map_eq_some_iff.1 hx
          obtain ⟨hj, hq'⟩ := List.getElem?_eq_some_iff.1 hq
          simp at hj hq'
          subst hq'
          have hm : j % i.size < z.cells.size := by rw [hzs]; exact Nat.mod_lt _ hpos
          have : y = z.cells[j % i.size] := by
            simp [hj] at hy
            rw [← hy, hzs]; exact getElem!_pos z.cells _ hm
          rw [this]
          have e : z.cells.toList.getD (j % i.size) undef = z.cells[j % i.size] := by simp [List.getD, hm]
          rw [e]
          exact ofC_ok _
        have hz1 : ∀ u ∈ ((Array.range (n * i.size)).map fun j => z.cells[j % z.cells.size]!).toList, u.oneCell' = true := fun u hu => by
          simp only [Array.toList_map, List.mem_map] at hu
          obtain ⟨j, _, rfl⟩ := hu
          have hm : j % i.size < z.cells.size := by rw [hzs]; exact Nat.mod_lt _ hpos
          exact hone _ (by rw [hzs, getElem!_pos z.cells _ hm]; simp)
        obtain ⟨vs, g1, g2, g3⟩ := fillC_ok (place := fun j => some (j * i.size, i.size)) (fun j q hq => by
          rw [List.getElem?_map] at hq
          obtain ⟨j', hj', rfl⟩ := Option.map_eq_some_iff.1 hq
          obtain ⟨_, hq'⟩ := List.getElem?_eq_some_iff.1 hj'
          simp at hq'; subst hq'; rfl) (opds_ok hr.env hqs) hz0 hz1 hcs
        have hrun : (execOp a.eval o).run P w = .ok (.value (.slice (some ⟨w.heap.size, 0, none⟩) n n)) (w.alloc (.cells vs e)) := by
          have hfill : Instr.fill (fun j => some (j * i.size, i.size)) ((Array.range (n * i.size)).map fun j => z.cells[j % z.cells.size]!) (ps.toList.map fun p => (p.1, a.eval p.2)) = some vs := g1
          have hs24 : ¬ (16777216 < n * i.size) := by omega
          by_cases hn0 : n * i.size = 0
          · have hr0 : ∀ f : Nat → Value, (Array.range 0).map f = #[] := fun f => by apply Array.ext'; simp
            have hfill' : Instr.fill (fun j => some (j * i.size, i.size)) #[] (ps.toList.map fun p => (p.1, a.eval p.2)) = some vs := by rw [hn0, hr0] at hfill; exact hfill
            simp [execOp, hop, Instr.buildSlice, run_underlying hu, sizeOf, typeInfo, hi, hn0, hr0, hfill', newRow]
          · simp [execOp, hop, Instr.buildSlice, run_underlying hu, sizeOf, typeInfo, hi, hn0, zeroValue, hz, hs24, hfill, newRow]
        have hcl : cs.length = n * i.size := by rw [fillC_len hcs]; simp [bsCells]
        have hvl : vs.toList.length = n * i.size := by rw [← g2.1, hcl]
        have hnm : n ≤ maxLen := by
          have : n ≤ n * i.size := Nat.le_mul_of_pos_right _ hpos
          simp [maxLen]; omega
        have hrow : RowOk (w.alloc (.cells vs e)) e i.size (.slice (some ⟨w.heap.size, 0, none⟩) n n) n vs.toList := by
          refine ⟨hvl, ?_⟩
          rcases Nat.eq_zero_or_pos n with rfl | hnp
          · exact .inl ⟨rfl, _, rfl⟩
          · exact .inr ⟨w.heap.size, n, vs, rfl, hnp, heap_alloc_new w _, Nat.le_refl _, hnm, by simpa using hvl, by rw [← hvl]; exact List.take_length⟩
        have hrb : ∀ b, rowB (.slice (some ⟨w.heap.size, 0, none⟩) n n) = some b → w.heap.size ≤ b := fun b hb => by
          have := rowB_own hb
          simp [Value.ownBlock] at this; omega
        split at h5
        · rename_i ys ks hys
          obtain ⟨h5, h6⟩ := h5
          exact wp_value hrun (by rw [hdst]; exact hn _ _ _ h6 (hr.newRowE h1 hpos (World.grownBy_alloc w _ none) hrow hrb (ownC_ok hr.rs hys g2) h5 h3 h4))
        · split at h5
          · rename_i ys hys
            exact wp_value hrun (by rw [hdst]; exact hn _ _ _ h5 (hr.newRowE (own := false) (ks := []) h1 hpos (World.grownBy_alloc w _ none) hrow hrb (toIVs_ok hys g2) (by simp) h3 h4))
          · exact h5.elim
      · exact h.elim
    · exact h.elim
  -- makeSlice
  · rename_i t l c d
    split at h
    · rename_i e sz by_ zs kl n kc n' hap hl hc
      obtain ⟨i, z, hu, hi, hz, hzs, hpos, rfl, rfl, rfl, hone⟩ := apOf_some hap
      split at h
      · rename_i ys ks hys
        obtain ⟨h1, h2, h3, h4, h5, h6, h7, h8⟩ := h
        subst h3
        obtain ⟨nn, rfl⟩ := Int.eq_ofNat_of_zero_le h2
        simp only [Int.toNat_natCast] at h4 h5 h8
        have hlv := opd_ok hr.env hl
        have hcv := opd_ok hr.env hc
        generalize hl' : a.eval l = lv at hlv
        generalize hc' : a.eval c = cv at hcv
        cases hlv with
        | im _ _ hlv =>
          cases hlv
          cases hcv with
          | im _ _ hcv =>
            cases hcv
            obtain ⟨w', g1, g2, g3⟩ := run_make_full (P := P) w 0 t e i z i.size hu hi hz rfl kl kc nn (by omega) h5 (Nat.zero_le _)
            refine wp_value (v := .slice (some ⟨w.heap.size, 0, none⟩) nn nn) (w' := w') (by simp [execOp, hop, hl', hc', g1]) ?_
            rw [hdst]
            refine hn _ _ _ h8 (hr.newRowE (ks := []) h1 hpos g3 (rowOk_of g2) (fun b hb => ?_) (made_ok hzs hys) (by simp) h6 h7)
            have := rowB_own hb
            simp [Value.ownBlock] at this; omega
      · exact h.elim
    · exact h.elim
  -- binOp
  · rename_i op t x y u d
    split at h
    · rename_i cx hx hy
      obtain ⟨h1, h2, h3⟩ := h
      obtain ⟨ad, n, c, hv, hK⟩ := nilK_ok h3 (opd_ok hr.env hx)
      have hyv := opd_ok hr.env hy
      generalize hyy : a.eval y = vy at hyv
      cases hyv
      obtain ⟨e, hu⟩ : ∃ e, P.underlying t = some (.slice e) := by
        unfold slB at h1
        split at h1
        · rename_i e hu; exact ⟨e, hu⟩
        · cases h1
      refine wp_value (v := .bool ad.isNone) (w' := w) ?_ (by rw [hdst]; exact hn _ _ _ hK ⟨ω, κ, hr.put h2 (by cases ad <;> exact .im _ _ (.sc _ rfl))⟩)
      have hg : eqGuard .eql t x y (.slice ad n c) (.slice none 0 0) = pure () := rfl
      simp only [execOp, hop, hv, hyy, hg]
      simp [Lib.run_eql_slice_nil w t e ad n c 0 0 hu]
    · rename_i cx hx hy
      obtain ⟨h1, h2, h3⟩ := h
      obtain ⟨ad, n, c, hv, hK⟩ := nilK_ok h3 (opd_ok hr.env hx)
      have hyv := opd_ok hr.env hy
      generalize hyy : a.eval y = vy at hyv
      cases hyv
      obtain ⟨e, hu⟩ : ∃ e, P.underlying t = some (.slice e) := by
        unfold slB at h1
        split at h1
        · rename_i e hu; exact ⟨e, hu⟩
        · cases h1
      refine wp_value (v := .bool (!ad.isNone)) (w' := w) ?_ (by rw [hdst]; exact hn _ _ _ hK ⟨ω, κ, hr.put h2 (by cases ad <;> exact .im _ _ (.sc _ rfl))⟩)
      have hg : eqGuard .neq t x y (.slice ad n c) (.slice none 0 0) = pure () := rfl
      have he : (binOp .neq t (.slice ad n c) (.slice none 0 0)).run P w = .ok (.bool (!ad.isNone)) w := by
        have := Lib.run_eql_slice_nil w t e ad n c 0 0 hu
        simp only [binOp] at this ⊢
        simp [Op.equal, Op.maxDepth, Lib.run_equalIn_slice_nil w 9999 t e ad n c 0 0 hu]
      simp only [execOp, hop, hv, hyy, hg]
      simp [he]
    · split at h
      · rename_i r hr'
        exact hev hdst (by rw [hop]; exact hr') h.1 h.2
      · exact h.elim
  -- call
  · rename_i c d
    split at h
    · rename_i x y t t' hcal hargs htys
      have e1 : c.args = #[x, y] := by apply Array.ext'; simpa using hargs
      have e2 : c.argTypes = #[t, t'] := by apply Array.ext'; simpa using htys
      split at h
      · rename_i e sz by_ zs k n hap hx
        split at h
        · rename_i e' sz' n' cs o1 m ys ks o2 hk hy
          obtain ⟨rfl, rfl, rfl, rfl, hd, hl, hf, h63, hby, hkk, hnn, h⟩ := h
          split at h
          · rename_i oo hmix
            obtain ⟨yv, hyv, hsrc⟩ := Option.bind_eq_some_iff.1 hy
            obtain ⟨ad, cc, vs, hev', hya, hnil, hcell⟩ := srcM_ok hr.rs hsrc (opd_ok hr.env hyv) hf
            have hxv := opd_ok hr.env hx
            generalize hxe : a.eval x = xv at hxv
            cases hxv with
            | os _ _ ad' c' _ _ hh =>
              have hkkk := (hh _ _ hk rfl).2 rfl
              obtain ⟨v', w', g1, g2⟩ := hr.appendM (ty := o.type) hd hap hk hmix hya hkk (srcM_ks hsrc).1 hnil hl hcell h63 hby hnn
              refine wp_value (v := v') (w' := w') ?_ (by rw [hdst]; exact hn _ _ _ h g2)
              rw [hkkk] at g1
              simp [execOp, hop, resolve, hcal, e1, e2, hxe, hev', invoke, builtin, g1]
          · exact h.elim
        · exact h.elim
      · rename_i e sz by_ zs k n q hap hx
        split at h
        · rename_i e' sz' n' cs o1 m ys ks o2 hk hy
          obtain ⟨rfl, rfl, rfl, rfl, hd, hl, hf, h63, hby, hkk, hE, hS, hkd, hdk, hqn, hcl, h⟩ := h
          split at h
          · rename_i oo hmix
            obtain ⟨yv, hyv, hsrc⟩ := Option.bind_eq_some_iff.1 hy
            obtain ⟨ad, cc, vs, hev', hya, hnil, hcell⟩ := srcM_ok hr.rs hsrc (opd_ok hr.env hyv) hf
            have hxv := opd_ok hr.env hx
            generalize hxe : a.eval x = xv at hxv
            cases hxv with
            | ov _ _ _ _ ad' c' hqc _ hh =>
              obtain ⟨_, _, _, hov⟩ := (hh _ _ hk rfl).2 rfl
              obtain ⟨ω', κ', h1, h2, him, hob⟩ := hr.trunc (q := q) hk hkd hE hS hqn hcl (hov rfl) hqc
              have hksd : ∀ j ∈ ks, j ≠ k := fun j hj e => hkk (e ▸ hj)
              obtain ⟨v', w', g1, g2⟩ := h1.appendM (ty := o.type) (d := d) (k := 2 * d) (n := q) (m := m) (ys := ys) (ks := ks) hd hap (by rw [get_cons, if_pos rfl]) hmix (fun own' ho => (hya own' ho).over him fun b j hb hj => hob b j hb (hksd j hj)) hdk (srcM_ks hsrc).1 hnil hl hcell h63 hby (noE_nn hE)
              refine wp_value (v := v') (w' := w') ?_ (by
                rw [hdst]
                refine hn _ _ _ h ?_
                have : ∀ (l : List Nat) (σ : Sto), 2 * d ∉ l → upd (delL ((2 * d, Ob.vec e' sz' q (cs.take (q * sz')) o1) :: σ) l) (2 * d) (.vec e' sz' (q + m) (cs.take (q * sz') ++ ys) oo) = (2 * d, .vec e' sz' (q + m) (cs.take (q * sz') ++ ys) oo) :: delL σ l := fun l => by
                  induction l with
                  | nil => intro σ _; simp [delL, upd]
                  | cons j r ih =>
                    intro σ hj
                    simp only [List.mem_cons, not_or] at hj
                    simp only [delL, del, if_neg (Ne.symm hj.1)]
                    exact ih _ hj.2
                rw [this _ _ hdk] at g2
                exact g2)
              rw [h2] at g1
              simp [execOp, hop, resolve, hcal, e1, e2, hxe, hev', invoke, builtin, g1]
          · exact h.elim
        · exact h.elim
      · rename_i e sz by_ zs hap hx
        split at h
        · rename_i m ys ks o2 hy
          obtain ⟨rfl, hd, hE, hS, hl, hf, h63, hby, hdk, hK⟩ := h
          obtain ⟨yv, hyv, hsrc⟩ := Option.bind_eq_some_iff.1 hy
          obtain ⟨i, z, hu, hi, hz, hzs, hpos, rfl, rfl, rfl, hone⟩ := apOf_some hap
          obtain ⟨ad, cc, vs, hev', hya, hnil, hcell⟩ := srcM_ok hr.rs hsrc (opd_ok hr.env hyv) hf
          have hxv := opd_ok hr.env hx
          generalize hxe : a.eval x = xv at hxv
          cases hxv with
          | nl =>
            have hs := hya o2 (.inl rfl)
            obtain ⟨v', w', g1, g2, g3, _, g5⟩ := append_row (P := P) (ty := o.type) hu hi hz hzs hpos (w := w) (v := .slice none 0 0) (n := 0) (xs := []) ⟨by simp, .inl ⟨rfl, none, rfl⟩⟩ ad m cc vs hnil (by rw [← hs.len]; exact hl) hcell hs.one (by omega) (by simpa using hby)
            simp only [Nat.zero_add, List.nil_append] at g2
            refine wp_value (v := v') (w' := w') ?_ (by rw [hdst]; exact hn _ _ _ hK (hr.newRowE hd hpos g3 g2 (fun b hb => (g5 b hb).resolve_left (by simp [rowB])) hs hdk hE hS))
            simp [execOp, hop, resolve, hcal, e1, e2, hxe, hev', invoke, builtin, g1]
        · exact h.elim
      · rename_i e sz by_ zs hap hx
        split at h
        · rename_i m ys ks o2 hy
          obtain ⟨rfl, hd, hE, hS, hl, hf, h63, hby, hdk, hK⟩ := h
          obtain ⟨yv, hyv, hsrc⟩ := Option.bind_eq_some_iff.1 hy
          obtain ⟨i, z, hu, hi, hz, hzs, hpos, rfl, rfl, rfl, hone⟩ := apOf_some hap
          obtain ⟨ad, cc, vs, hev', hya, hnil, hcell⟩ := srcM_ok hr.rs hsrc (opd_ok hr.env hyv) hf
          have hxv := opd_ok hr.env hx
          generalize hxe : a.eval x = xv at hxv
          cases hxv with
          | ik _ _ _ adx hxv =>
            have hv0 : RowOk w e i.size (.slice adx 0 0) 0 [] := ⟨by simp, .inl ⟨rfl, adx, rfl⟩⟩
            have hs := hya o2 (.inl rfl)
            obtain ⟨v', w', g1, g2, g3, _, g5⟩ := append_row (P := P) (ty := o.type) hu hi hz hzs hpos (w := w) (v := .slice adx 0 0) (n := 0) (xs := []) hv0 ad m cc vs hnil (by rw [← hs.len]; exact hl) hcell hs.one (by omega) (by simpa using hby)
            have hrb : rowB (.slice adx 0 0) = none := by cases adx <;> rfl
            rw [hrb] at g3 g5
            simp only [Nat.zero_add, List.nil_append] at g2
            refine wp_value (v := v') (w' := w') ?_ (by rw [hdst]; exact hn _ _ _ hK (hr.newRowE hd hpos g3 g2 (fun b hb => (g5 b hb).resolve_left (by simp)) hs hdk hE hS))
            simp [execOp, hop, resolve, hcal, e1, e2, hxe, hev', invoke, builtin, g1]
        · exact h.elim
      · rename_i e sz by_ zs c0 n cs hneg hap hx
        split at h
        · rename_i m ys ks o2 hy
          obtain ⟨rfl, hcap, hcl, hd, hE, hS, hl, hf, hfo, h63, hby, rfl, hK⟩ := h
          obtain ⟨yv, hyv, hsrc⟩ := Option.bind_eq_some_iff.1 hy
          obtain ⟨i, z, hu, hi, hz, hzs, hpos, rfl, rfl, rfl, hone⟩ := apOf_some hap
          obtain ⟨ad, cc, vs, hev', hya, hnil, hcell⟩ := srcM_ok hr.rs hsrc (opd_ok hr.env hyv) fun h => (hf h).1
          have hxv := opd_ok hr.env hx
          generalize hxe : a.eval x = xv at hxv
          cases hxv with
          | ik _ _ _ adx hxv =>
            obtain ⟨adx', cx, us, hev2, hua, hnil2, hcell2⟩ := RI_src hxv
            injection hev2 with q1 _ q3
            subst q1; subst q3
            have hnc : n ≤ c0 := by cases hxv <;> omega
            have hs := hya (flatZ z.cells.toList) (by
              cases hfl : flatZ z.cells.toList with
              | true => exact .inr (.inl rfl)
              | false =>
                rcases hfo hfl with h | h
                · exact .inl h.symm
                · exact .inr (.inr h))
            obtain ⟨w', cap', g1, g2, g3⟩ := append_fresh (P := P) (ty := o.type) hu hi hz hzs hpos (adx := adx) (n := n) (c0 := c0) (us := us) (by rw [← hua.1]; exact hcl) hcell2 hnil2 hnc ad m cc vs hnil (by rw [← hs.len]; exact hl) hcell hcap h63 hby
            have hsc : Src w ω [] (flatZ z.cells.toList) (cs ++ ys) (us ++ vs) := by
              cases hfl : flatZ z.cells.toList with
              | true =>
                have h1 := src_flat (ω := ω) (hua.imp fun x y _ h => .inl h) (hf hfl).2 false
                have h2 := hya false (.inr (.inl hfl))
                have h3 : All2 (RI w ω) (cs ++ ys) (us ++ vs) := All2.append (show All2 (RI w ω) cs us from h1) (show All2 (RI w ω) ys vs from h2)
                refine src_flat (h3.imp fun x y _ h => .inl h) ?_ true
                have : ∀ l : List IV, allSc l = true → allSc (l ++ ys) = true := fun l => by
                  induction l with
                  | nil => intro _; exact (hf hfl).1
                  | cons x r ih =>
                    intro h
                    cases x with
                    | sc => exact ih h
                    | _ => cases h
                exact this cs (hf hfl).2
              | false =>
                rw [hfl] at hs
                exact All2.append hua hs
            refine wp_value (v := .slice (some ⟨w.heap.size, 0, none⟩) (n + m) cap') (w' := w') ?_ (by
              rw [hdst]
              refine hn _ _ _ hK (hr.newRowE (ks := []) hd hpos g3 g2 (fun b hb => ?_) hsc (by simp) hE hS)
              have := rowB_own hb
              simp [Value.ownBlock] at this; omega)
            simp [execOp, hop, resolve, hcal, e1, e2, hxe, hev', invoke, builtin, g1]
        · exact h.elim
      · exact h.elim
    · rename_i x t hcal hargs htys
      have e1 : c.args = #[x] := by apply Array.ext'; simpa using hargs
      have e2 : c.argTypes = #[t] := by apply Array.ext'; simpa using htys
      split at h
      · rename_i r hr'
        obtain ⟨p, hp, hev'⟩ := Option.bind_eq_some_iff.1 hr'
        obtain ⟨u, g1, g2⟩ := evLen_ok (P := P) (ty := o.type) hev' (opd_ok hr.env hp)
        refine wp_value (v := u) (w' := w) ?_ (by rw [hdst]; exact hn _ _ _ h.2 ⟨ω, κ, hr.put h.1 g2⟩)
        simp [execOp, hop, resolve, hcal, e1, e2, invoke, builtin, g1]
      · exact h.elim
    · rename_i f hcal
      split at h
      · rename_i g caps xs hf hxs
        obtain ⟨hok, hK⟩ := h
        obtain ⟨x, hx, hg⟩ := Option.bind_eq_some_iff.1 hf
        obtain ⟨cs, hv, hc⟩ := calleeOf_ok hg (opd_ok hr.env hx)
        have hav := opsT_ok hr.env hxs
        have hall : All2 (RT w ω κ s.σ) (xs ++ caps) ((c.args.toList.map a.eval) ++ cs) := hav.append hc
        have hargs' : c.args.map a.eval ++ cs.toArray = ((c.args.toList.map a.eval) ++ cs).toArray := by apply Array.ext'; simp
        refine wp_enter (g := g) (args := ((c.args.toList.map a.eval) ++ cs).toArray) ?_ ((hK β ω κ a w _ hr hall).mono fun e w' ⟨v, he, s', hK', hr'⟩ => ⟨v, he, by rw [hdst]; exact hn _ _ _ hK' hr'⟩)
        rw [← hargs']
        simp [execOp, hop, resolve, hcal, hv, Deferred.ofValue, invoke, run_callFunc hok]
      · exact h.elim
    · split at h
      · rename_i r hr'
        exact hev hdst (by rw [hop]; exact hr') h.1 h.2
      · exact h.elim
  -- the others
  · rename_i d hdst' _ _ _ _
    split at h
    · rename_i r hr'
      exact hev hdst' hr' h.1 h.2
    · exact h.elim
  · exact h.elim
end
end Go.VC
