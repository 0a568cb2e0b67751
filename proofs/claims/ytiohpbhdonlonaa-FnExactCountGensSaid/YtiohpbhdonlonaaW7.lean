/- Rows and boxes of a frame. -/
import Derived.Test.YtiohpbhdonlonaaW6
set_option linter.unusedSimpArgs false
set_option linter.unusedVariables false
namespace Go.VC
open Go Go.RowKit
section
variable {β : Base} {w w' : World} {ω ω' : Lab} {κ κ' : Nat → Value} {σ σ' : Sto} {E : Env} {a : Act} {s : St} {P : Program}

/-- The labels when row k is 'v' now, and the objects 'ks' have moved into it. -/
def rowL (ω : Lab) (ks : List Nat) (k : Nat) (v : Value) : Lab := fun b => if rowB v = some b then .ob k else relab ω ks k b
def setK (κ : Nat → Value) (k : Nat) (v : Value) : Nat → Value := fun j => if j = k then v else κ j
theorem setK_eq (κ : Nat → Value) (k : Nat) (v : Value) : setK κ k v k = v := by simp [setK]
theorem setK_ne (κ : Nat → Value) {k j : Nat} (v : Value) (h : j ≠ k) : setK κ k v j = κ j := by simp [setK, h]

theorem Rel.rowTo (h : Rel β ω κ s a w) (k : Nat) (ks : List Nat) (v' : Value) (o' : Ob) {g : Option Nat} (hg : w.grownBy w' g) (hgk : ∀ b, g = some b → ω b = .ob k) (hv' : ∀ b, rowB v' = some b → ω b = .ob k ∨ w.heap.size ≤ b ∧ b < w'.heap.size)
    (hk : k ∉ ks) (hσ : ∀ j, j ≠ k → get σ' j = if j ∈ ks then none else get s.σ j) (hσk : get σ' k = some o') (hob : ObOk w' (rowL ω ks k v') (setK κ k v') σ' k o')
    (hkk : KeyOk κ s.σ (setK κ k v') σ' k ∨ ((get β.σ k).isSome = false ∧ noE k s.E = true ∧ noS k s.σ = true)) (hn : nnE k s.E = true) : Rel β (rowL ω ks k v') (setK κ k v') ⟨s.N, s.E, σ'⟩ a w' := by
  have hlab : ∀ b l, ω b = l → l ≠ .no → l ≠ .ob k → rowB v' ≠ some b := fun b l hb h1 h2 e => by
    rcases hv' b e with h3 | ⟨h3, _⟩
    · exact h2 (hb ▸ h3)
    · have := h.rs.dom b (by rw [hb]; exact h1); omega
  refine h.change k (Turn.grown hg (fun b hb => ⟨k, hgk b hb⟩) (fun b hb => ?_) fun b hb hno => ?_) (fun b hb => ?_) (fun j hj => setK_ne κ v' hj) (fun j hj => ?_) (fun o ho => by rw [hσk] at ho; obtain rfl := Option.some.inj ho; exact hob) hkk hn
  · unfold rowL; rw [if_neg (hlab b _ hb (by simp) (by simp))]; exact relab_im hb
  · unfold rowL
    rw [if_neg fun e => ?_]
    · exact relab_no hno
    · rcases hv' b e with h3 | ⟨h3, _⟩
      · rw [hno] at h3; cases h3
      · omega
  · unfold rowL at hb
    split at hb
    · rename_i e
      rcases hv' b e with h3 | ⟨_, h3⟩
      · exact Nat.lt_of_lt_of_le (h.rs.dom b (by rw [h3]; simp)) hg.size
      · exact h3
    · exact Nat.lt_of_lt_of_le (h.rs.dom b (relab_no' hb)) hg.size
  · rw [hσ j hj]
    by_cases hjk : j ∈ ks
    · exact .inl (by rw [if_pos hjk])
    · refine .inr ⟨by rw [if_neg hjk], fun b hb => ⟨?_, hg.block b (h.rs.dom b (by rw [hb]; simp)) fun e => ?_⟩⟩
      · unfold rowL; rw [if_neg (hlab b _ hb (by simp) (by simp; exact hj))]; exact relab_out hb hjk
      · have := hgk b e.symm
        rw [hb] at this; injection this with this; exact hj this

/-- An append to a row of the call's own. -/
theorem Rel.append (h : Rel β ω κ s a w) {k n m : Nat} {t ty e : TypeId} {sz by_ : Nat} {zs : List Value} {cs ys : List IV} {own : Bool} {ks : List Nat} (ht : apOf P t = some (e, sz, by_, zs)) (hk : get s.σ k = some (.vec e sz n cs own))
    {ad : Option Addr} {c : Nat} {vs : List Value} (hy : Src w ω ks own ys vs) (hkk : k ∉ ks) (hnil : ad = none → m = 0 ∧ c = 0) (hl : ys.length = m * sz)
    (hcell : ∀ b, ad = some b → ∀ j u, vs[j]? = some u → w.cell? (b.add j) = some u) (h63 : n + m ≤ maxLen) (hbytes : (n + m) * by_ ≤ 140737488355328) (hnn : nnE k s.E = true) :
    ∃ v' w', (Builtin.append_ #[t, t] ty #[κ k, .slice ad m c]).run P w = .ok v' w' ∧ Rel β (rowL ω ks k v') (setK κ k v') ⟨s.N, s.E, upd (delL s.σ ks) k (.vec e sz (n + m) (cs ++ ys) own)⟩ a w' ∧ ∃ ad c, v' = .slice ad (n + m) c ∧ n + m ≤ c ∧ (ad = none → c = 0) := by
  obtain ⟨i, z, hu, hi, hz, hzs, hpos, rfl, rfl, rfl, hone⟩ := apOf_some ht
  obtain ⟨h0, xs, hown, hlab, hcs⟩ := h.rs.ob k _ hk
  obtain ⟨v', w', hr, ho, hg, hsame, hb⟩ := append_row (P := P) (ty := ty) hu hi hz hzs hpos hown ad m c vs hnil (by rw [← hy.len]; exact hl) hcell hy.one h63 hbytes
  obtain ⟨ad', c', hsl, hc1, hc2, hc3⟩ := ho.slice
  have hsome : (get (delL s.σ ks) k).isSome = true := by rw [get_delL, if_neg hkk, hk]; rfl
  have hlt : ∀ b, rowB v' = some b → b < w'.heap.size := fun b hb => ho.lt hb
  refine ⟨v', w', hr, ?_, ad', c', hsl, hc1, hc3⟩
  refine h.rowTo k ks v' (.vec e i.size (n + m) (cs ++ ys) own) hg hlab (fun b hbv => ?_) hkk (fun j hj => by rw [get_upd _ _ _ _ hsome, if_neg hj, get_delL]) (by rw [get_upd _ _ _ _ hsome, if_pos rfl]) ⟨hpos, xs ++ vs, ?_, fun b hbv => ?_, ?_⟩ (.inl ⟨fun hst => ?_, fun o' m' ho' hm' => ?_⟩) hnn
  · rcases hb b hbv with h1 | h1
    · exact .inl (hlab b h1)
    · exact .inr ⟨h1, hlt b hbv⟩
  · rw [setK_eq]; exact ho
  · rw [setK_eq] at hbv; unfold rowL; rw [if_pos hbv]
  · rw [setK_eq]
    refine hcs.add hy hkk hlab hb (fun b hbn hbg => hg.block b (h.rs.dom b hbn) hbg) h.rs.dom fun b hbl => ?_
    unfold rowL
    split
    · rename_i hbv
      rcases hb b hbv with h1 | h1
      · exact (relab_k (hlab b h1)).symm
      · omega
    · rfl
  · obtain ⟨a0, c0, hs0, _⟩ := hown.slice
    rw [hs0] at hst; cases hst
  · rw [get_upd _ _ _ _ hsome, if_pos rfl] at ho'
    obtain rfl := Option.some.inj ho'
    obtain rfl := Option.some.inj hm'
    refine ⟨_, n, hk, rfl, by omega, fun e => ?_⟩
    rcases hsame with ⟨h1, _⟩ | h1
    · rw [setK_eq, h1]
    · omega

/-- A new row. -/
theorem Rel.newRow (h : Rel β ω κ s a w) {k n e : Nat} {t : TypeId} {ys : List IV} {own : Bool} {ks : List Nat} {v : Value} {xs vs : List Value} (he : 0 < e) (hg : w.grownBy w' none) (hv : RowOk w' t e v n vs) (hvb : ∀ b, rowB v = some b → w.heap.size ≤ b)
    (hy : Src w ω ks own ys vs) (hkk : k ∉ ks) (hb : (get β.σ k).isSome = false) (hE : noE k s.E = true) (hS : noS k s.σ = true) :
    Rel β (rowL ω ks k v) (setK κ k v) ⟨s.N, s.E, (k, .vec t e n ys own) :: delL s.σ ks⟩ a w' := by
  have hnn : nnE k s.E = true := by
    generalize s.E = E at hE
    induction E with
    | nil => rfl
    | cons p r ih =>
      obtain ⟨u, x⟩ := p
      simp only [noE, Bool.and_eq_true, Bool.not_eq_true'] at hE
      simp only [nnE, Bool.and_eq_true, Bool.not_eq_true']
      refine ⟨?_, ih hE.2⟩
      cases hx : x.hasN k with
      | false => rfl
      | true => rw [hasNT_has k x hx] at hE; exact hE.1
  have hself : CellsOk w ω k none own [] [] := by
    unfold CellsOk
    split
    · exact ⟨rfl, fun _ _ => False, by simp, by simp, by simp⟩
    · exact ⟨rfl, by simp⟩
  refine h.rowTo k ks v (.vec t e n ys own) hg (by simp) (fun b hbv => .inr ⟨hvb b hbv, hv.lt hbv⟩) hkk (fun j hj => by rw [get_cons, if_neg hj, get_delL]) (by rw [get_cons, if_pos rfl]) ⟨he, vs, by rw [setK_eq]; exact hv, fun b hbv => ?_, ?_⟩ (.inr ⟨hb, hE, hS⟩) hnn
  · rw [setK_eq] at hbv; unfold rowL; rw [if_pos hbv]
  · rw [setK_eq]
    have := hself.add (w' := w') (g' := rowB v) (ω' := rowL ω ks k v) hy hkk (by simp) (fun b hbv => .inr (hvb b hbv)) (fun b hbn _ => hg.block b (h.rs.dom b hbn) (by simp)) h.rs.dom fun b hbl => by
      unfold rowL; rw [if_neg fun e => by have := hvb b e; omega]
    simpa using this

/-- A new box. -/
theorem Rel.newBox (h : Rel β ω κ s a w) {k : Nat} {t : TypeId} {cs : List Cell} {vs : Array Value} (hb : (get β.σ k).isSome = false) (hE : noE k s.E = true) (hS : noS k s.σ = true) (hc : hasL k cs = false) (hv : All2 (RC w ω κ s.σ) cs vs.toList)
    (ho : ∀ u ∈ vs.toList, u.oneCell' = true) (hn : anyNL cs = false) :
    Rel β (fun b => if b = w.heap.size then .ob k else ω b) (setK κ k (.pointer (some ⟨w.heap.size, 0, none⟩))) ⟨s.N, s.E, (k, .box t cs) :: s.σ⟩ a (w.alloc (.cells vs t)) := by
  have hg := World.grownBy_alloc w (.cells vs t) none
  have hne : ∀ b, ω b ≠ .no → b ≠ w.heap.size := fun b hb e => by have := h.rs.dom b hb; omega
  have hnn : nnE k s.E = true := by
    generalize s.E = E at hE
    induction E with
    | nil => rfl
    | cons p r ih =>
      obtain ⟨u, x⟩ := p
      simp only [noE, Bool.and_eq_true, Bool.not_eq_true'] at hE
      simp only [nnE, Bool.and_eq_true, Bool.not_eq_true']
      refine ⟨?_, ih hE.2⟩
      cases hx : x.hasN k with
      | false => rfl
      | true => rw [hasNT_has k x hx] at hE; exact hE.1
  have him : ∀ b, ω b = .im → (if b = w.heap.size then Lb.ob k else ω b) = .im := fun b hb => by rw [if_neg (hne b (by rw [hb]; simp))]; exact hb
  refine h.change k (Turn.grown hg (by simp) him fun b hb hno => by rw [if_neg (by omega)]; exact hno) (fun b hb => ?_) (fun j hj => setK_ne _ _ hj) (fun j hj => .inr ⟨by rw [get_cons, if_neg hj], fun b hb => ⟨by rw [if_neg (hne b (by rw [hb]; simp))]; exact hb, hg.block b (h.rs.dom b (by rw [hb]; simp)) (by simp)⟩⟩) (fun o ho' => ?_) (.inr ⟨hb, hE, hS⟩) hnn
  · split at hb
    · rename_i e; subst e; simp
    · have := h.rs.dom b hb; simp; omega
  · rw [get_cons, if_pos rfl] at ho'
    obtain rfl := Option.some.inj ho'
    refine ⟨w.heap.size, vs, setK_eq _ _ _, by simp, heap_alloc_new w _, hv.imp fun x y hx hxy => hxy.step ⟨fun b hb => ⟨him b hb, hg.block b (h.rs.dom b (by rw [hb]; simp)) (by simp)⟩, fun j hj => ?_, fun j hj => ?_⟩, ho, hn⟩
    · have hjk : j ≠ k := fun e => by subst e; rw [hasL_of_mem hx hj] at hc; cases hc
      refine ⟨fun _ => setK_ne _ _ hjk, fun o' m' hg' hm' => ?_⟩
      rw [get_cons, if_neg hjk] at hg'
      exact ⟨o', m', hg', hm', Nat.le_refl _, fun _ => setK_ne _ _ hjk⟩
    · rw [anyN_has j x (anyNL_mem hn x hx)] at hj; cases hj

theorem setL_take {α : Type} {vs cur : List α} {off N : Nat} (hl : off + vs.length ≤ N) (hN : N ≤ cur.length) : (setL cur off vs).take N = setL (cur.take N) off vs := by
  apply List.ext_getElem?
  intro j
  by_cases hj : j < N
  · rw [List.getElem?_take_of_lt hj, setL_get (by omega), setL_get (by simp; omega)]
    split
    · rfl
    · rw [List.getElem?_take_of_lt hj]
  · rw [List.getElem?_eq_none (by simp; omega), List.getElem?_eq_none (by rw [setL_len]; simp; omega)]
/-- A store into a row of the call's own. -/
theorem Rel.stVec (h : Rel β ω κ s a w) {k off n e : Nat} {t : TypeId} {cs ys : List IV} {own : Bool} {ks : List Nat} {vs : List Value} (hk : get s.σ k = some (.vec t e n cs own)) (hy : Src w ω ks own ys vs) (hkk : k ∉ ks)
    (hl : off + ys.length ≤ cs.length) (P : Program) (hne : 0 < ys.length) (hnn : nnE k s.E = true) : ∃ b n' c w', κ k = .slice (some ⟨b, 0, none⟩) n' c ∧ (storeCells ⟨b, off, none⟩ vs).run P w = .ok () w' ∧
      Rel β (relab ω ks k) κ ⟨s.N, s.E, upd (delL s.σ ks) k (.vec t e n (setL cs off ys) own)⟩ a w' := by
  obtain ⟨h0, xs, hown, hlab, hcs⟩ := h.rs.ob k _ hk
  have hcl := hcs.len
  rcases hown.2 with ⟨hv, hz⟩ | ⟨b, cap, cur, hv, hc, hheap, hnc, hcm, hcur, htake⟩
  · have h1 : xs.length = 0 := by rw [hown.1, hv]; simp
    omega
  have hlen : cs.length = n * e := by rw [hcl, hown.1]
  have hcz : n * e ≤ cur.size := by rw [hcur]; exact Nat.mul_le_mul_right _ hnc
  have hnl : ys.length = vs.length := hy.len
  have hrun := run_storeCells_at P b off t vs 0 cur w hheap (by omega) hy.one
  simp only [Nat.add_zero] at hrun
  have hlist : cur.toList.take off ++ vs ++ cur.toList.drop (off + vs.length) = setL cur.toList off vs := (setL_eq vs cur.toList off (by simp; omega)).symm
  rw [hlist] at hrun
  refine ⟨b, n, cap, _, hv, hrun, ?_⟩
  have hg := setRow_grown w b (setL cur.toList off vs).toArray
  have hkb : rowB (κ k) = some b := by rw [hv, rowB_some hc]
  have hsome : (get (delL s.σ ks) k).isSome = true := by rw [get_delL, if_neg hkk, hk]; rfl
  have hgk : ∀ c, some b = some c → ω c = .ob k := fun c hc => by obtain rfl := Option.some.inj hc; exact hlab b hkb
  have hrl : rowL ω ks k (κ k) = relab ω ks k := by
    funext c
    unfold rowL
    split
    · rename_i e'; rw [hkb] at e'; obtain rfl := Option.some.inj e'; exact (relab_k (hlab b hkb)).symm
    · rfl
  have hsk : setK κ k (κ k) = κ := by funext j; unfold setK; split <;> simp_all
  have := h.rowTo (w' := w.setRow b (setL cur.toList off vs).toArray) (σ' := upd (delL s.σ ks) k (.vec t e n (setL cs off ys) own)) k ks (κ k) (.vec t e n (setL cs off ys) own) hg hgk (fun c hc' => .inl (hlab c hc')) hkk (fun j hj => by rw [get_upd _ _ _ _ hsome, if_neg hj, get_delL]) (by rw [get_upd _ _ _ _ hsome, if_pos rfl])
    (by
      rw [hrl, hsk]
      refine ⟨h0, setL xs off vs, ⟨by rw [setL_len]; exact hown.1, .inr ⟨b, cap, (setL cur.toList off vs).toArray, hv, hc, setRow_heap w b cur _ t (0, 0) hheap, hnc, hcm, by simp [setL_len]; exact hcur, ?_⟩⟩, fun c hc' => relab_k (hlab c hc'), ?_⟩
      · have : (setL cur.toList off vs).take (n * e) = setL xs off vs := by rw [← htake]; exact setL_take (by omega) (by simpa using hcz)
        simpa using this
      · exact hcs.set hy hkk hlab (fun c hc1 hc2 => setRow_other _ _ _ _ fun e' => hc2 (by rw [e', hkb])) hl)
    (.inl ⟨fun _ => by rw [hsk], fun o' m' ho' hm' => by
      rw [get_upd _ _ _ _ hsome, if_pos rfl] at ho'
      obtain rfl := Option.some.inj ho'
      obtain rfl := Option.some.inj hm'
      exact ⟨_, _, hk, rfl, Nat.le_refl _, fun _ => by rw [hsk]⟩⟩) hnn
  rw [hrl, hsk] at this
  exact this
/-- A store into a row of a fixed length. -/
theorem Rel.stFix (h : Rel β ω κ s a w) {k off n : Nat} {cs ys : List IV} {ks : List Nat} {vs : List Value} (hk : get s.σ k = some (.row n cs)) (hy : Src w ω ks true ys vs) (hkk : k ∉ ks)
    (hl : off + ys.length ≤ cs.length) (P : Program) (hne : 0 < ys.length) (hnn : nnE k s.E = true) : ∃ b n' c w', κ k = .slice (some ⟨b, 0, none⟩) n' c ∧ (storeCells ⟨b, off, none⟩ vs).run P w = .ok () w' ∧
      Rel β (relab ω ks k) κ ⟨s.N, s.E, upd (delL s.σ ks) k (.row n (setL cs off ys))⟩ a w' := by
  obtain ⟨S, hR, hlab⟩ := h.rs.ob k _ hk
  generalize hkv : κ k = kv at hR
  cases hR with
  | z => simp only [List.length_nil] at hl; omega
  | sl _ c b t cur _ Ss _ hheap hc hnc hcm hsz h1 h2 h3 h4 =>
    have hnl : ys.length = vs.length := hy.len
    have hrun := run_storeCells_at P b off t vs 0 cur w hheap (by omega) hy.one
    simp only [Nat.add_zero] at hrun
    have hlist : cur.toList.take off ++ vs ++ cur.toList.drop (off + vs.length) = setL cur.toList off vs := (setL_eq vs cur.toList off (by simp; omega)).symm
    rw [hlist] at hrun
    refine ⟨b, n, c, _, rfl, hrun, ?_⟩
    have hg := setRow_grown w b (setL cur.toList off vs).toArray
    have hbk : ω b = .ob k := hlab b ((h4 b).2 (.inl rfl))
    have hkb : rowB (κ k) = some b := by rw [hkv, rowB_some hc]
    have hsome : (get (delL s.σ ks) k).isSome = true := by rw [get_delL, if_neg hkk, hk]; rfl
    have hrl : rowL ω ks k (κ k) = relab ω ks k := by
      funext c
      unfold rowL
      split
      · rename_i e'; rw [hkb] at e'; obtain rfl := Option.some.inj e'; exact (relab_k hbk).symm
      · rfl
    have hsk : setK κ k (κ k) = κ := by funext j; unfold setK; split <;> simp_all
    have hcs : CellsOk w ω k (rowB (κ k)) true cs (cur.toList.take cs.length) := by
      refine ⟨by simp; omega, Ss, fun j x v hx hv => ?_, h3, fun j b' hj hb' => ⟨hlab b' ((h4 b').2 (.inr ⟨j, hj, hb'⟩)), fun e => ?_⟩⟩
      · have hj := (List.getElem?_eq_some_iff.1 hx).1
        have := h1 j x hx
        rw [List.getElem?_take_of_lt hj] at hv
        have hv' : cur.getD j undef = v := by
          simp only [Array.getElem?_toList] at hv
          simp [Array.getD_eq_getD_getElem?, hv]
        rw [hv'] at this; exact this
      · rw [hkb] at e
        obtain rfl := Option.some.inj e
        exact h2 j hj hb'
    have hset := hcs.set (w' := w.setRow b (setL cur.toList off vs).toArray) hy hkk (fun c hc' => by rw [hkb] at hc'; obtain rfl := Option.some.inj hc'; exact hbk) (fun c hc1 hc2 => setRow_other _ _ _ _ fun e' => hc2 (by rw [e', hkb])) hl
    have hset : OwnC _ _ _ _ _ _ := hset
    obtain ⟨g0, T, g1, g2, g3⟩ := hset
    have := h.rowTo (w' := w.setRow b (setL cur.toList off vs).toArray) (σ' := upd (delL s.σ ks) k (.row n (setL cs off ys))) k ks (κ k) (.row n (setL cs off ys)) hg (fun c hc' => by obtain rfl := Option.some.inj hc'; exact hbk) (fun c hc' => .inl (by rw [hkb] at hc'; obtain rfl := Option.some.inj hc'; exact hbk)) hkk (fun j hj => by rw [get_upd _ _ _ _ hsome, if_neg hj, get_delL]) (by rw [get_upd _ _ _ _ hsome, if_pos rfl])
      (by
        rw [hrl, hsk]
        refine ⟨fun c => c = b ∨ ∃ j, j < (setL cs off ys).length ∧ T j c, ?_, fun c hc' => ?_⟩
        · rw [hkv]
          refine .sl n c b t (setL cur.toList off vs).toArray _ T _ (setRow_heap w b cur _ t (0, 0) hheap) hc hnc hcm (by simp [setL_len]; exact hsz) (fun j x hx => ?_) (fun j hj hb' => (g3 j b hj hb').2 (by rw [hkb])) g2 fun _ => Iff.rfl
          have hj := (List.getElem?_eq_some_iff.1 hx).1
          rw [setL_len] at hj
          refine g1 j x _ hx ?_
          have hjv : j < (setL (cur.toList.take cs.length) off vs).length := by rw [setL_len]; simp; omega
          have hq : (setL cur.toList off vs).take cs.length = setL (cur.toList.take cs.length) off vs := setL_take (by omega) (by simpa using hsz)
          rw [← hq, List.getElem?_take_of_lt hj]
          have hjc : j < (setL cur.toList off vs).length := by rw [setL_len]; simp; omega
          simp [Array.getD, hjc]
        · rcases hc' with rfl | ⟨j, hj, hc'⟩
          · exact relab_k hbk
          · exact (g3 j c hj hc').1)
      (.inl ⟨fun _ => by rw [hsk], fun o' m' ho' hm' => by
        rw [get_upd _ _ _ _ hsome, if_pos rfl] at ho'
        obtain rfl := Option.some.inj ho'
        obtain rfl := Option.some.inj hm'
        exact ⟨_, _, hk, rfl, Nat.le_refl _, fun _ => by rw [hsk]⟩⟩) hnn
    rw [hrl, hsk] at this
    exact this
end
end Go.VC
