/- Rows and boxes of a frame. -/
import Derived.Test.YteinefllijajdaaGW1
import Derived.Lib.SliceRun
set_option linter.unusedSimpArgs false
set_option linter.unusedVariables false
namespace Go.VC
open Go Go.RowKit
section
variable {β : Base} {w w' : World} {ω ω' : Lab} {κ κ' : Nat → Value} {σ σ' : Sto} {E : Env} {a : Act} {s : St} {P : Program}

/-- The labels when row k is 'v' now, and the objects 'ks' have moved into it. -/
def rowL (ω : Lab) (ks : List Nat) (k : Nat) (v : Value) : Lab := fun b => if rowB v = some b then .ob k else relab ω ks k b
def setK (κ : Nat → Value) (k : Nat) (v : Value) : Nat → Value := fun j => if j = k then v else κ j
theorem setK_eq (κ : Nat → Value) (k : Nat) (v : Value) : setK κ k v k = v := by simp [setK]
theorem setK_ne (κ : Nat → Value) {k j : Nat} (v : Value) (h : j ≠ k) : setK κ k v j = κ j := by simp [setK, h]

theorem Rel.rowTo (h : Rel β ω κ s a w) (k : Nat) (ks : List Nat) (v' : Value) (o' : Ob) {g : Option Nat} (hg : w.grownBy w' g) (hgk : ∀ b, g = some b → ω b = .ob k) (hv' : ∀ b, rowB v' = some b → ω b = .ob k ∨ w.heap.size ≤ b ∧ b < w'.heap.size)
    (hk : k ∉ ks) (hσ : ∀ j, j ≠ k → get σ' j = if j ∈ ks then none else get s.σ j) (hσk : get σ' k = some o') (hob : ObOk w' (rowL ω ks k v') (setK κ k v') σ' k o')
    (hkk : KeyOk κ s.σ (setK κ k v') σ' k ∨ ((get β.σ k).isSome = false ∧ noE k s.E = true ∧ noS k s.σ = true)) (hn : nnE k s.E = true) : Rel β (rowL ω ks k v') (setK κ k v') ⟨s.N, s.E, σ'⟩ a w' := by
  have hlab : ∀ b l, ω b = l → l ≠ .no → l ≠ .ob k → rowB v' ≠ some b := fun b l hb h1 h2 e => by
    rcases hv' b e with h3 | ⟨h3, _⟩
    · exact h2 (hb ▸ h3)
    · have := h.rs.dom b (by rw [hb]; exact h1); omega
  refine h.change k (Turn.grown hg (fun b hb => ⟨k, hgk b hb⟩) (fun b hb => ?_) fun b hb hno => ?_) (fun b hb => ?_) (fun j hj => setK_ne κ v' hj) (fun j hj => ?_) (fun o ho => by rw [hσk] at ho; obtain rfl := Option.some.inj ho; exact hob) hkk hn
  · unfold rowL; rw [if_neg (hlab b _ hb (by simp) (by simp))]; exact relab_im hb
  · unfold rowL
    rw [if_neg fun e => ?_]
    · exact relab_no hno
    · rcases hv' b e with h3 | ⟨h3, _⟩
      · rw [hno] at h3; cases h3
      · omega
  · unfold rowL at hb
    split at hb
    · rename_i e
      rcases hv' b e with h3 | ⟨_, h3⟩
      · exact Nat.lt_of_lt_of_le (h.rs.dom b (by rw [h3]; simp)) hg.size
      · exact h3
    · exact Nat.lt_of_lt_of_le (h.rs.dom b (relab_no' hb)) hg.size
  · rw [hσ j hj]
    by_cases hjk : j ∈ ks
    · exact .inl (by rw [if_pos hjk])
    · refine .inr ⟨by rw [if_neg hjk], fun b hb => ⟨?_, hg.block b (h.rs.dom b (by rw [hb]; simp)) fun e => ?_⟩⟩
      · unfold rowL; rw [if_neg (hlab b _ hb (by simp) (by simp; exact hj))]; exact relab_out hb hjk
      · have := hgk b e.symm
        rw [hb] at this; injection this with this; exact hj this

/-- An append to a row of the call's own. -/
theorem Rel.append (h : Rel β ω κ s a w) {k n m : Nat} {t ty e : TypeId} {sz by_ : Nat} {zs : List Value} {cs ys : List IV} {own : Bool} {ks : List Nat} (ht : apOf P t = some (e, sz, by_, zs)) (hk : get s.σ k = some (.vec e sz n cs own))
    {ad : Option Addr} {c : Nat} {vs : List Value} (hy : Src w ω ks own ys vs) (hkk : k ∉ ks) (hnil : ad = none → m = 0 ∧ c = 0) (hl : ys.length = m * sz)
    (hcell : ∀ b, ad = some b → ∀ j u, vs[j]? = some u → w.cell? (b.add j) = some u) (h63 : n + m ≤ maxLen) (hbytes : (n + m) * by_ ≤ 140737488355328) (hnn : nnE k s.E = true) :
    ∃ v' w', (Builtin.append_ #[t, t] ty #[κ k, .slice ad m c]).run P w = .ok v' w' ∧ Rel β (rowL ω ks k v') (setK κ k v') ⟨s.N, s.E, upd (delL s.σ ks) k (.vec e sz (n + m) (cs ++ ys) own)⟩ a w' ∧ ∃ ad c, v' = .slice ad (n + m) c ∧ n + m ≤ c ∧ (ad = none → c = 0) := by
  obtain ⟨i, z, hu, hi, hz, hzs, hpos, rfl, rfl, rfl, hone⟩ := apOf_some ht
  obtain ⟨h0, xs, hown, hlab, hcs⟩ := h.rs.ob k _ hk
  obtain ⟨v', w', hr, ho, hg, hsame, hb⟩ := append_row (P := P) (ty := ty) hu hi hz hzs hpos hown ad m c vs hnil (by rw [← hy.len]; exact hl) hcell hy.one h63 hbytes
  obtain ⟨ad', c', hsl, hc1, hc2, hc3⟩ := ho.slice
  have hsome : (get (delL s.σ ks) k).isSome = true := by rw [get_delL, if_neg hkk, hk]; rfl
  have hlt : ∀ b, rowB v' = some b → b < w'.heap.size := fun b hb => ho.lt hb
  refine ⟨v', w', hr, ?_, ad', c', hsl, hc1, hc3⟩
  refine h.rowTo k ks v' (.vec e i.size (n + m) (cs ++ ys) own) hg hlab (fun b hbv => ?_) hkk (fun j hj => by rw [get_upd _ _ _ _ hsome, if_neg hj, get_delL]) (by rw [get_upd _ _ _ _ hsome, if_pos rfl]) ⟨hpos, xs ++ vs, ?_, fun b hbv => ?_, ?_⟩ (.inl ⟨fun hst => ?_, fun o' m' ho' hm' => ?_⟩) hnn
  · rcases hb b hbv with h1 | h1
    · exact .inl (hlab b h1)
    · exact .inr ⟨h1, hlt b hbv⟩
  · rw [setK_eq]; exact ho
  · rw [setK_eq] at hbv; unfold rowL; rw [if_pos hbv]
  · rw [setK_eq]
    refine hcs.add hy hkk hlab hb (fun b hbn hbg => hg.block b (h.rs.dom b hbn) hbg) h.rs.dom fun b hbl => ?_
    unfold rowL
    split
    · rename_i hbv
      rcases hb b hbv with h1 | h1
      · exact (relab_k (hlab b h1)).symm
      · omega
    · rfl
  · obtain ⟨a0, c0, hs0, _⟩ := hown.slice
    rw [hs0] at hst; cases hst
  · rw [get_upd _ _ _ _ hsome, if_pos rfl] at ho'
    obtain rfl := Option.some.inj ho'
    obtain rfl := Option.some.inj hm'
    refine ⟨_, n, hk, rfl, by omega, fun e => ?_⟩
    rcases hsame with ⟨h1, _⟩ | h1
    · rw [setK_eq, h1]
    · omega

/-- A new row. -/
theorem Rel.newRow (h : Rel β ω κ s a w) {k n e : Nat} {t : TypeId} {ys : List IV} {own : Bool} {ks : List Nat} {v : Value} {xs vs : List Value} (he : 0 < e) (hg : w.grownBy w' none) (hv : RowOk w' t e v n vs) (hvb : ∀ b, rowB v = some b → w.heap.size ≤ b)
    (hy : Src w ω ks own ys vs) (hkk : k ∉ ks) (hb : (get β.σ k).isSome = false) (hE : noE k s.E = true) (hS : noS k s.σ = true) :
    Rel β (rowL ω ks k v) (setK κ k v) ⟨s.N, s.E, (k, .vec t e n ys own) :: delL s.σ ks⟩ a w' := by
  have hnn : nnE k s.E = true := by
    generalize s.E = E at hE
    induction E with
    | nil => rfl
    | cons p r ih =>
      obtain ⟨u, x⟩ := p
      simp only [noE, Bool.and_eq_true, Bool.not_eq_true'] at hE
      simp only [nnE, Bool.and_eq_true, Bool.not_eq_true']
      refine ⟨?_, ih hE.2⟩
      cases hx : x.hasN k with
      | false => rfl
      | true => rw [hasNT_has k x hx] at hE; exact hE.1
  have hself : CellsOk w ω k none own [] [] := by
    unfold CellsOk
    split
    · exact ⟨rfl, fun _ _ => False, by simp, by simp, by simp⟩
    · exact ⟨rfl, by simp⟩
  refine h.rowTo k ks v (.vec t e n ys own) hg (by simp) (fun b hbv => .inr ⟨hvb b hbv, hv.lt hbv⟩) hkk (fun j hj => by rw [get_cons, if_neg hj, get_delL]) (by rw [get_cons, if_pos rfl]) ⟨he, vs, by rw [setK_eq]; exact hv, fun b hbv => ?_, ?_⟩ (.inr ⟨hb, hE, hS⟩) hnn
  · rw [setK_eq] at hbv; unfold rowL; rw [if_pos hbv]
  · rw [setK_eq]
    have := hself.add (w' := w') (g' := rowB v) (ω' := rowL ω ks k v) hy hkk (by simp) (fun b hbv => .inr (hvb b hbv)) (fun b hbn _ => hg.block b (h.rs.dom b hbn) (by simp)) h.rs.dom fun b hbl => by
      unfold rowL; rw [if_neg fun e => by have := hvb b e; omega]
    simpa using this

/-- A new box. -/
theorem Rel.newBox (h : Rel β ω κ s a w) {k : Nat} {t : TypeId} {cs : List Cell} {vs : Array Value} (hb : (get β.σ k).isSome = false) (hE : noE k s.E = true) (hS : noS k s.σ = true) (hc : hasL k cs = false) (hv : All2 (RC w ω κ s.σ) cs vs.toList)
    (ho : ∀ u ∈ vs.toList, u.oneCell' = true) (hn : anyNL cs = false) :
    Rel β (fun b => if b = w.heap.size then .ob k else ω b) (setK κ k (.pointer (some ⟨w.heap.size, 0, none⟩))) ⟨s.N, s.E, (k, .box t cs) :: s.σ⟩ a (w.alloc (.cells vs t)) := by
  have hg := World.grownBy_alloc w (.cells vs t) none
  have hne : ∀ b, ω b ≠ .no → b ≠ w.heap.size := fun b hb e => by have := h.rs.dom b hb; omega
  have hnn : nnE k s.E = true := by
    generalize s.E = E at hE
    induction E with
    | nil => rfl
    | cons p r ih =>
      obtain ⟨u, x⟩ := p
      simp only [noE, Bool.and_eq_true, Bool.not_eq_true'] at hE
      simp only [nnE, Bool.and_eq_true, Bool.not_eq_true']
      refine ⟨?_, ih hE.2⟩
      cases hx : x.hasN k with
      | false => rfl
      | true => rw [hasNT_has k x hx] at hE; exact hE.1
  have him : ∀ b, ω b = .im → (if b = w.heap.size then Lb.ob k else ω b) = .im := fun b hb => by rw [if_neg (hne b (by rw [hb]; simp))]; exact hb
  refine h.change k (Turn.grown hg (by simp) him fun b hb hno => by rw [if_neg (by omega)]; exact hno) (fun b hb => ?_) (fun j hj => setK_ne _ _ hj) (fun j hj => .inr ⟨by rw [get_cons, if_neg hj], fun b hb => ⟨by rw [if_neg (hne b (by rw [hb]; simp))]; exact hb, hg.block b (h.rs.dom b (by rw [hb]; simp)) (by simp)⟩⟩) (fun o ho' => ?_) (.inr ⟨hb, hE, hS⟩) hnn
  · split at hb
    · rename_i e; subst e; simp
    · have := h.rs.dom b hb; simp; omega
  · rw [get_cons, if_pos rfl] at ho'
    obtain rfl := Option.some.inj ho'
    refine ⟨w.heap.size, vs, setK_eq _ _ _, by simp, heap_alloc_new w _, hv.imp fun x y hx hxy => hxy.step ⟨fun b hb => ⟨him b hb, hg.block b (h.rs.dom b (by rw [hb]; simp)) (by simp)⟩, fun j hj => ?_, fun j hj => ?_⟩, ho, hn⟩
    · have hjk : j ≠ k := fun e => by subst e; rw [hasL_of_mem hx hj] at hc; cases hc
      refine ⟨fun _ => setK_ne _ _ hjk, fun o' m' hg' hm' => ?_⟩
      rw [get_cons, if_neg hjk] at hg'
      exact ⟨o', m', hg', hm', Nat.le_refl _, fun _ => setK_ne _ _ hjk⟩
    · rw [anyN_has j x (anyNL_mem hn x hx)] at hj; cases hj

open Classical in
/-- A map with a key's element set. -/
noncomputable def mput (f : Value → Option Value) (k v : Value) : Value → Option Value := fun u => if u = k then some v else f u
def mNo : Value → Option Value := fun _ => none
theorem mapOk_no (d : TypeDesc) : MapOk d #[] mNo := ⟨by simp, by simp, fun v x => by simp [mNo]⟩
theorem MapOk.push {d : TypeDesc} {es : Array MapEntry} {f : Value → Option Value} (h : MapOk d es f) {key val : Value} (hk : MapKept.IsKey d key) (hv : scalarB val = true) (hn : ∀ x ∈ es.toList, x.key ≠ key) (n : Nat) : MapOk d (es.push { key, val, born := n }) (mput f key val) := by
  obtain ⟨h1, h2, h3⟩ := h
  refine ⟨?_, ?_, fun v x => ?_⟩
  · simp only [Array.toList_push, List.map_append, List.map_cons, List.map_nil]
    refine List.nodup_append.2 ⟨h1, by simp, ?_⟩
    intro a ha b hb
    simp only [List.mem_singleton] at hb
    subst hb
    obtain ⟨x, hx, rfl⟩ := List.mem_map.1 ha
    exact hn x hx
  · intro e he
    simp only [Array.toList_push, List.mem_append, List.mem_singleton] at he
    rcases he with he | rfl
    · exact h2 e he
    · exact ⟨hk, hv⟩
  · unfold mput
    simp only [Array.toList_push, List.mem_append, List.mem_singleton]
    by_cases hvk : v = key
    · rw [if_pos hvk]
      constructor
      · intro e; obtain rfl := Option.some.inj e; exact ⟨_, .inr rfl, hvk.symm, rfl⟩
      · rintro ⟨e, he | rfl, g1, g2⟩
        · exact absurd (g1.trans hvk) (hn e he)
        · rw [← g2]
    · rw [if_neg hvk, h3]
      constructor
      · rintro ⟨e, he, g⟩; exact ⟨e, .inl he, g⟩
      · rintro ⟨e, he | rfl, g1, g2⟩
        · exact ⟨e, he, g1, g2⟩
        · exact absurd g1.symm hvk
theorem MapOk.mod {d : TypeDesc} {es : Array MapEntry} {f : Value → Option Value} (h : MapOk d es f) {key val : Value} (hk : MapKept.IsKey d key) (hv : scalarB val = true) {i : Nat} {e : MapEntry} (he : es.toList[i]? = some e) (hek : e.key = key) : MapOk d (es.modify i fun e => { e with key, val := val }) (mput f key val) := by
  obtain ⟨h1, h2, h3⟩ := h
  have hkeys : (es.modify i fun e => { e with key, val := val }).toList.map (·.key) = es.toList.map (·.key) := by
    apply List.ext_getElem?
    intro j
    simp only [List.getElem?_map, Array.getElem?_toList, Array.getElem?_modify]
    split
    · rename_i hij
      subst hij
      rw [Array.getElem?_toList] at he
      rw [he]; simp [hek]
    · rfl
  have hget : ∀ j : Nat, (es.modify i fun e => { e with key, val := val })[j]? = if i = j then some { e with key, val := val } else es[j]? := fun j => by
    rw [Array.getElem?_modify]
    split
    · rename_i hij; subst hij
      rw [Array.getElem?_toList] at he
      rw [he]; rfl
    · rfl
  have hmem : ∀ x, x ∈ (es.modify i fun e => { e with key, val := val }).toList ↔ x = { e with key, val := val } ∨ (x ∈ es.toList ∧ x.key ≠ key) := fun x => by
    rw [List.mem_iff_getElem?]
    constructor
    · rintro ⟨j, hj⟩
      rw [Array.getElem?_toList, hget] at hj
      split at hj
      · exact .inl (Option.some.inj hj).symm
      · rename_i hij
        rw [← Array.getElem?_toList] at hj
        refine .inr ⟨List.mem_of_getElem? hj, fun hxk => hij ?_⟩
        obtain ⟨q1, q2⟩ := List.getElem?_eq_some_iff.1 he
        obtain ⟨q3, q4⟩ := List.getElem?_eq_some_iff.1 hj
        refine (List.getElem_inj (i := i) (j := j) (h₀ := by simpa using q1) (h₁ := by simpa using q3) h1).1 ?_
        simp only [List.getElem_map, q2, q4, hek, hxk]
    · rintro (rfl | ⟨hx, hxk⟩)
      · exact ⟨i, by rw [Array.getElem?_toList, hget, if_pos rfl]⟩
      · obtain ⟨j, hj⟩ := List.mem_iff_getElem?.1 hx
        refine ⟨j, ?_⟩
        rw [Array.getElem?_toList, hget, if_neg, ← Array.getElem?_toList, hj]
        rintro rfl
        rw [he] at hj
        obtain rfl := Option.some.inj hj
        exact hxk hek
  refine ⟨by rw [hkeys]; exact h1, fun x hx => ?_, fun v x => ?_⟩
  · rcases (hmem x).1 hx with rfl | ⟨hx, _⟩
    · exact ⟨hk, hv⟩
    · exact h2 x hx
  · unfold mput
    by_cases hvk : v = key
    · rw [if_pos hvk]
      constructor
      · intro e'; obtain rfl := Option.some.inj e'; exact ⟨_, (hmem _).2 (.inl rfl), hvk.symm, rfl⟩
      · rintro ⟨e', he', g1, g2⟩
        rcases (hmem e').1 he' with rfl | ⟨_, hne⟩
        · rw [← g2]
        · exact absurd (g1.trans hvk) hne
    · rw [if_neg hvk, h3]
      constructor
      · rintro ⟨e', he', g1, g2⟩; exact ⟨e', (hmem e').2 (.inr ⟨he', fun q => hvk (g1.symm.trans q)⟩), g1, g2⟩
      · rintro ⟨e', he', g1, g2⟩
        rcases (hmem e').1 he' with rfl | ⟨hx, _⟩
        · exact absurd g1.symm hvk
        · exact ⟨e', hx, g1, g2⟩
/-- A new map. -/
theorem Rel.newMap (h : Rel β ω κ s a w) {k : Nat} {d : TypeDesc} (hb : (get β.σ k).isSome = false) (hE : noE k s.E = true) (hS : noS k s.σ = true) (hnn : nnE k s.E = true) :
    Rel β (fun b => if b = w.heap.size then .ob k else ω b) (setK κ k (.map (some w.heap.size))) ⟨s.N, s.E, (k, .map d mNo) :: s.σ⟩ a (w.alloc (.map #[] 0)) := by
  have hg := World.grownBy_alloc w (.map #[] 0) none
  have hne : ∀ b, ω b ≠ .no → b ≠ w.heap.size := fun b hb e => by have := h.rs.dom b hb; omega
  have him : ∀ b, ω b = .im → (if b = w.heap.size then Lb.ob k else ω b) = .im := fun b hb => by rw [if_neg (hne b (by rw [hb]; simp))]; exact hb
  refine h.change k (Turn.grown hg (by simp) him fun b hb hno => by rw [if_neg (by omega)]; exact hno) (fun b hb => ?_) (fun j hj => setK_ne _ _ hj) (fun j hj => .inr ⟨by rw [get_cons, if_neg hj], fun b hb => ⟨by rw [if_neg (hne b (by rw [hb]; simp))]; exact hb, hg.block b (h.rs.dom b (by rw [hb]; simp)) (by simp)⟩⟩) (fun o ho' => ?_) (.inr ⟨hb, hE, hS⟩) hnn
  · split at hb
    · rename_i e; subst e; simp
    · have := h.rs.dom b hb; simp; omega
  · rw [get_cons, if_pos rfl] at ho'
    obtain rfl := Option.some.inj ho'
    exact ⟨w.heap.size, #[], 0, setK_eq _ _ _, by simp, heap_alloc_new w _, mapOk_no d⟩
/-- A key's element is set. -/
theorem Rel.putMap (h : Rel β ω κ s a w) {k : Nat} {d : TypeDesc} {f : Value → Option Value} (hk : get s.σ k = some (.map d f)) {key val : Value} (hkey : MapKept.IsKey d key) (hval : scalarB val = true) (hnn : nnE k s.E = true)
    {P : Program} {t kt et : TypeId} (g1 : P.underlying t = some (.map kt et)) (g2 : P.underlying kt = some d) :
    ∃ r w', κ k = .map (some r) ∧ (Instr.mapUpdate t (.map (some r)) key val).run P w = .ok () w' ∧ Rel β ω κ ⟨s.N, s.E, upd s.σ k (.map d (mput f key val))⟩ a w' := by
  obtain ⟨r, es, clock, q1, q2, q3, q4⟩ := h.rs.ob k _ hk
  have hsome : (get s.σ k).isSome = true := by rw [hk]; rfl
  have fin : ∀ es' clock', MapOk d es' (mput f key val) → Rel β ω κ ⟨s.N, s.E, upd s.σ k (.map d (mput f key val))⟩ a { w with heap := w.heap.setIfInBounds r (.map es' clock') } := fun es' clock' hm => by
    obtain ⟨p1, p2⟩ := MapKept.heap_set (o' := Obj.map es' clock') q3
    refine h.change k ⟨rfl, rfl, rfl, by simp, fun b _ hb => p2 b fun e => hb k (by rw [e]; exact q2), fun _ h => h, fun _ _ h => h⟩ (fun b hb => by simp; exact h.rs.dom b hb) (fun _ _ => rfl) (fun j hj => .inr ⟨by rw [get_upd _ _ _ _ hsome, if_neg hj], fun b hb => ⟨hb, p2 b fun e => by rw [e, q2] at hb; injection hb with hb; exact hj hb.symm⟩⟩) (fun o ho => ?_) (.inl ⟨fun _ => rfl, fun o' m' ho hm' => ?_⟩) hnn
    · rw [get_upd _ _ _ _ hsome, if_pos rfl] at ho
      obtain rfl := Option.some.inj ho
      exact ⟨r, es', clock', q1, q2, p1, hm⟩
    · rw [get_upd _ _ _ _ hsome, if_pos rfl] at ho
      obtain rfl := Option.some.inj ho
      cases hm'
  have hck := fun b n => MapKept.run_checkKey (w := w) g2 hkey b n
  rcases MapKept.findNow_spec hkey es.toList 0 (fun x hx => (q4.2.1 x hx).1) with ⟨e1, e2⟩ | ⟨i', e, e1, e2, e3⟩
  · have hfind := MapKept.run_findKey (w := w) g2 e1
    exact ⟨r, _, q1, by simp [Instr.mapUpdate, run_underlying g1, MapKept.run_getObj_map q3, hck, hfind, MapKept.run_setObj_map _ q3, Result.andThen], fin _ (clock + 1) (q4.push hkey hval e2 clock)⟩
  · have hfind := MapKept.run_findKey (w := w) g2 e1
    have e4 : es[i']? = some e := by rw [← Array.getElem?_toList]; exact e2
    have e5 : ((es[i']?).map (·.key)).getD key = key := by rw [e4]; exact e3
    refine ⟨r, _, q1, ?_, fin _ clock (q4.mod hkey hval e2 e3)⟩
    simp only [Nat.zero_add] at hfind
    have e6 : ((Option.map (fun x => x.key) es[i']?).getD key) = key := e5
    simp [Instr.mapUpdate, run_underlying g1, MapKept.run_getObj_map q3, hck, hfind, e4, e3, MapKept.run_keyThatStays hkey, MapKept.run_setObj_map _ q3, Result.andThen]

theorem setL_take {α : Type} {vs cur : List α} {off N : Nat} (hl : off + vs.length ≤ N) (hN : N ≤ cur.length) : (setL cur off vs).take N = setL (cur.take N) off vs := by
  apply List.ext_getElem?
  intro j
  by_cases hj : j < N
  · rw [List.getElem?_take_of_lt hj, setL_get (by omega), setL_get (by simp; omega)]
    split
    · rfl
    · rw [List.getElem?_take_of_lt hj]
  · rw [List.getElem?_eq_none (by simp; omega), List.getElem?_eq_none (by rw [setL_len]; simp; omega)]
/-- A store into a row of the call's own. -/
theorem Rel.stVec (h : Rel β ω κ s a w) {k off n e : Nat} {t : TypeId} {cs ys : List IV} {own : Bool} {ks : List Nat} {vs : List Value} (hk : get s.σ k = some (.vec t e n cs own)) (hy : Src w ω ks own ys vs) (hkk : k ∉ ks)
    (hl : off + ys.length ≤ cs.length) (P : Program) (hne : 0 < ys.length) (hnn : nnE k s.E = true) : ∃ b n' c w', κ k = .slice (some ⟨b, 0, none⟩) n' c ∧ (storeCells ⟨b, off, none⟩ vs).run P w = .ok () w' ∧
      Rel β (relab ω ks k) κ ⟨s.N, s.E, upd (delL s.σ ks) k (.vec t e n (setL cs off ys) own)⟩ a w' := by
  obtain ⟨h0, xs, hown, hlab, hcs⟩ := h.rs.ob k _ hk
  have hcl := hcs.len
  rcases hown.2 with ⟨hv, hz⟩ | ⟨b, cap, cur, hv, hc, hheap, hnc, hcm, hcur, htake⟩
  · have h1 : xs.length = 0 := by rw [hown.1, hv]; simp
    omega
  have hlen : cs.length = n * e := by rw [hcl, hown.1]
  have hcz : n * e ≤ cur.size := by rw [hcur]; exact Nat.mul_le_mul_right _ hnc
  have hnl : ys.length = vs.length := hy.len
  have hrun := run_storeCells_at P b off t vs 0 cur w hheap (by omega) hy.one
  simp only [Nat.add_zero] at hrun
  have hlist : cur.toList.take off ++ vs ++ cur.toList.drop (off + vs.length) = setL cur.toList off vs := (setL_eq vs cur.toList off (by simp; omega)).symm
  rw [hlist] at hrun
  refine ⟨b, n, cap, _, hv, hrun, ?_⟩
  have hg := setRow_grown w b (setL cur.toList off vs).toArray
  have hkb : rowB (κ k) = some b := by rw [hv, rowB_some hc]
  have hsome : (get (delL s.σ ks) k).isSome = true := by rw [get_delL, if_neg hkk, hk]; rfl
  have hgk : ∀ c, some b = some c → ω c = .ob k := fun c hc => by obtain rfl := Option.some.inj hc; exact hlab b hkb
  have hrl : rowL ω ks k (κ k) = relab ω ks k := by
    funext c
    unfold rowL
    split
    · rename_i e'; rw [hkb] at e'; obtain rfl := Option.some.inj e'; exact (relab_k (hlab b hkb)).symm
    · rfl
  have hsk : setK κ k (κ k) = κ := by funext j; unfold setK; split <;> simp_all
  have := h.rowTo (w' := w.setRow b (setL cur.toList off vs).toArray) (σ' := upd (delL s.σ ks) k (.vec t e n (setL cs off ys) own)) k ks (κ k) (.vec t e n (setL cs off ys) own) hg hgk (fun c hc' => .inl (hlab c hc')) hkk (fun j hj => by rw [get_upd _ _ _ _ hsome, if_neg hj, get_delL]) (by rw [get_upd _ _ _ _ hsome, if_pos rfl])
    (by
      rw [hrl, hsk]
      refine ⟨h0, setL xs off vs, ⟨by rw [setL_len]; exact hown.1, .inr ⟨b, cap, (setL cur.toList off vs).toArray, hv, hc, setRow_heap w b cur _ t (0, 0) hheap, hnc, hcm, by simp [setL_len]; exact hcur, ?_⟩⟩, fun c hc' => relab_k (hlab c hc'), ?_⟩
      · have : (setL cur.toList off vs).take (n * e) = setL xs off vs := by rw [← htake]; exact setL_take (by omega) (by simpa using hcz)
        simpa using this
      · exact hcs.set hy hkk hlab (fun c hc1 hc2 => setRow_other _ _ _ _ fun e' => hc2 (by rw [e', hkb])) hl)
    (.inl ⟨fun _ => by rw [hsk], fun o' m' ho' hm' => by
      rw [get_upd _ _ _ _ hsome, if_pos rfl] at ho'
      obtain rfl := Option.some.inj ho'
      obtain rfl := Option.some.inj hm'
      exact ⟨_, _, hk, rfl, Nat.le_refl _, fun _ => by rw [hsk]⟩⟩) hnn
  rw [hrl, hsk] at this
  exact this
/-- A store into a row of a fixed length. -/
theorem Rel.stFix (h : Rel β ω κ s a w) {k off n : Nat} {cs ys : List IV} {ks : List Nat} {vs : List Value} (hk : get s.σ k = some (.row n cs)) (hy : Src w ω ks true ys vs) (hkk : k ∉ ks)
    (hl : off + ys.length ≤ cs.length) (P : Program) (hne : 0 < ys.length) (hnn : nnE k s.E = true) : ∃ b n' c w', κ k = .slice (some ⟨b, 0, none⟩) n' c ∧ (storeCells ⟨b, off, none⟩ vs).run P w = .ok () w' ∧
      Rel β (relab ω ks k) κ ⟨s.N, s.E, upd (delL s.σ ks) k (.row n (setL cs off ys))⟩ a w' := by
  obtain ⟨S, hR, hlab⟩ := h.rs.ob k _ hk
  generalize hkv : κ k = kv at hR
  cases hR with
  | z => simp only [List.length_nil] at hl; omega
  | sl _ c b t cur _ Ss _ hheap hc hnc hcm hsz h1 h2 h3 h4 =>
    have hnl : ys.length = vs.length := hy.len
    have hrun := run_storeCells_at P b off t vs 0 cur w hheap (by omega) hy.one
    simp only [Nat.add_zero] at hrun
    have hlist : cur.toList.take off ++ vs ++ cur.toList.drop (off + vs.length) = setL cur.toList off vs := (setL_eq vs cur.toList off (by simp; omega)).symm
    rw [hlist] at hrun
    refine ⟨b, n, c, _, rfl, hrun, ?_⟩
    have hg := setRow_grown w b (setL cur.toList off vs).toArray
    have hbk : ω b = .ob k := hlab b ((h4 b).2 (.inl rfl))
    have hkb : rowB (κ k) = some b := by rw [hkv, rowB_some hc]
    have hsome : (get (delL s.σ ks) k).isSome = true := by rw [get_delL, if_neg hkk, hk]; rfl
    have hrl : rowL ω ks k (κ k) = relab ω ks k := by
      funext c
      unfold rowL
      split
      · rename_i e'; rw [hkb] at e'; obtain rfl := Option.some.inj e'; exact (relab_k hbk).symm
      · rfl
    have hsk : setK κ k (κ k) = κ := by funext j; unfold setK; split <;> simp_all
    have hcs : CellsOk w ω k (rowB (κ k)) true cs (cur.toList.take cs.length) := by
      refine ⟨by simp; omega, Ss, fun j x v hx hv => ?_, h3, fun j b' hj hb' => ⟨hlab b' ((h4 b').2 (.inr ⟨j, hj, hb'⟩)), fun e => ?_⟩⟩
      · have hj := (List.getElem?_eq_some_iff.1 hx).1
        have := h1 j x hx
        rw [List.getElem?_take_of_lt hj] at hv
        have hv' : cur.getD j undef = v := by
          simp only [Array.getElem?_toList] at hv
          simp [Array.getD_eq_getD_getElem?, hv]
        rw [hv'] at this; exact this
      · rw [hkb] at e
        obtain rfl := Option.some.inj e
        exact h2 j hj hb'
    have hset := hcs.set (w' := w.setRow b (setL cur.toList off vs).toArray) hy hkk (fun c hc' => by rw [hkb] at hc'; obtain rfl := Option.some.inj hc'; exact hbk) (fun c hc1 hc2 => setRow_other _ _ _ _ fun e' => hc2 (by rw [e', hkb])) hl
    have hset : OwnC _ _ _ _ _ _ := hset
    obtain ⟨g0, T, g1, g2, g3⟩ := hset
    have := h.rowTo (w' := w.setRow b (setL cur.toList off vs).toArray) (σ' := upd (delL s.σ ks) k (.row n (setL cs off ys))) k ks (κ k) (.row n (setL cs off ys)) hg (fun c hc' => by obtain rfl := Option.some.inj hc'; exact hbk) (fun c hc' => .inl (by rw [hkb] at hc'; obtain rfl := Option.some.inj hc'; exact hbk)) hkk (fun j hj => by rw [get_upd _ _ _ _ hsome, if_neg hj, get_delL]) (by rw [get_upd _ _ _ _ hsome, if_pos rfl])
      (by
        rw [hrl, hsk]
        refine ⟨fun c => c = b ∨ ∃ j, j < (setL cs off ys).length ∧ T j c, ?_, fun c hc' => ?_⟩
        · rw [hkv]
          refine .sl n c b t (setL cur.toList off vs).toArray _ T _ (setRow_heap w b cur _ t (0, 0) hheap) hc hnc hcm (by simp [setL_len]; exact hsz) (fun j x hx => ?_) (fun j hj hb' => (g3 j b hj hb').2 (by rw [hkb])) g2 fun _ => Iff.rfl
          have hj := (List.getElem?_eq_some_iff.1 hx).1
          rw [setL_len] at hj
          refine g1 j x _ hx ?_
          have hjv : j < (setL (cur.toList.take cs.length) off vs).length := by rw [setL_len]; simp; omega
          have hq : (setL cur.toList off vs).take cs.length = setL (cur.toList.take cs.length) off vs := setL_take (by omega) (by simpa using hsz)
          rw [← hq, List.getElem?_take_of_lt hj]
          have hjc : j < (setL cur.toList off vs).length := by rw [setL_len]; simp; omega
          simp [Array.getD, hjc]
        · rcases hc' with rfl | ⟨j, hj, hc'⟩
          · exact relab_k hbk
          · exact (g3 j c hj hc').1)
      (.inl ⟨fun _ => by rw [hsk], fun o' m' ho' hm' => by
        rw [get_upd _ _ _ _ hsome, if_pos rfl] at ho'
        obtain rfl := Option.some.inj ho'
        obtain rfl := Option.some.inj hm'
        exact ⟨_, _, hk, rfl, Nat.le_refl _, fun _ => by rw [hsk]⟩⟩) hnn
    rw [hrl, hsk] at this
    exact this
end
end Go.VC
/- What is handed over; contracts of functions. -/
set_option linter.unusedSimpArgs false
set_option linter.unusedVariables false
namespace Go.VC
open Go Go.RowKit
section
variable {β : Base} {w w' : World} {ω ω' : Lab} {κ κ' : Nat → Value} {σ σ' : Sto} {E : Env} {a : Act} {s : St} {P : Program}

mutual
def Cell.keys : Cell → List Nat
  | .rf k _ => [k]
  | .rv k _ _ => [k]
  | .os k _ => [k]
  | .ov k _ _ _ => [k]
  | .ns k _ => [k]
  | .mp k => [k]
  | .fn _ caps => keysL caps
  | _ => []
def keysL : List Cell → List Nat
  | [] => []
  | c :: r => c.keys ++ keysL r
end
def TV.keys : TV → List Nat
  | .c x => x.keys
  | .ag cs => keysL cs
  | .tp ts => ts.flatMap fun
    | .c x => x.keys
    | .ag cs => keysL cs
    | .tp _ => []
mutual
theorem has_keys (k : Nat) : ∀ (x : Cell), x.has k = true → k ∈ x.keys
  | .rf j _, h | .rv j _ _, h | .os j _, h | .ov j _ _ _, h | .ns j _, h | .mp j, h => by
    simp [Cell.has] at h; simp [Cell.keys, h]
  | .fn _ caps, h => hasL_keys k caps h
  | .im _, h | .nl, h | .ik _ _ _, h | .bad, h => by cases h
theorem hasL_keys (k : Nat) : ∀ (l : List Cell), hasL k l = true → k ∈ keysL l
  | [], h => by cases h
  | c :: r, h => by
    simp only [hasL, Bool.or_eq_true] at h
    simp only [keysL, List.mem_append]
    rcases h with h | h
    · exact .inl (has_keys k c h)
    · exact .inr (hasL_keys k r h)
end
theorem hasT_keys (k : Nat) (x : TV) (h : x.has k = true) : k ∈ x.keys := by
  cases x with
  | c x => exact has_keys k x h
  | ag cs => exact hasL_keys k cs h
  | tp ts =>
    simp only [TV.has, List.any_eq_true] at h
    obtain ⟨y, hy, h⟩ := h
    simp only [TV.keys, List.mem_flatMap]
    refine ⟨y, hy, ?_⟩
    cases y with
    | c x => exact has_keys k x h
    | ag cs => exact hasL_keys k cs h
    | tp ts => cases h

/-- The object k, and what it leads to, is never written again. -/
def St.frzD (s : St) (k : Nat) : St := match get s.σ k with
  | some (.box _ cs) => ((keysL cs).foldl St.frz s).frz k
  | _ => s.frz k
def St.frzAll (s : St) (ks : List Nat) : St := ks.foldl St.frzD s
theorem foldl_frz (ks : List Nat) : ∀ {s : St} {ω : Lab}, Rel β ω κ s a w → ∃ ω', Rel β ω' κ (ks.foldl St.frz s) a w := by
  induction ks with
  | nil => intro s ω h; exact ⟨ω, h⟩
  | cons k r ih => intro s ω h; obtain ⟨D1, h1⟩ := h.frz k; exact ih h1
theorem Rel.frzD (h : Rel β ω κ s a w) (k : Nat) : ∃ ω', Rel β ω' κ (s.frzD k) a w := by
  unfold St.frzD
  split
  · obtain ⟨D1, h1⟩ := foldl_frz _ h; exact h1.frz k
  · exact h.frz k
theorem Rel.frzAll (ks : List Nat) : ∀ {s : St} {ω : Lab}, Rel β ω κ s a w → ∃ ω', Rel β ω' κ (s.frzAll ks) a w := by
  induction ks with
  | nil => intro s ω h; exact ⟨ω, h⟩
  | cons k r ih => intro s ω h; obtain ⟨D1, h1⟩ := h.frzD k; exact ih h1

def opsT (E : Env) : List Operand → Option (List TV)
  | [] => some []
  | x :: r => (opd E x).bind fun y => (opsT E r).map (y :: ·)
theorem opsT_ok (hE : EnvOk w ω κ σ E a.tmps) : ∀ {xs : List Operand} {ys : List TV}, opsT E xs = some ys → All2 (RT w ω κ σ) ys (xs.map a.eval)
  | [], ys, h => by obtain rfl := Option.some.inj h; exact ⟨rfl, by simp⟩
  | x :: r, ys, h => by
    simp only [opsT] at h
    obtain ⟨y, hy, h⟩ := Option.bind_eq_some_iff.1 h
    obtain ⟨zs, hz, rfl⟩ := Option.map_eq_some_iff.1 h
    exact .cons (opd_ok hE hy) (opsT_ok hE hz)

/-- **A function's contract**: the objects that it is handed over, its arguments; the objects, the result behind the call. -/
def FnS (P : Program) (g : FuncId) (σ0 : Sto) (args : List TV) (σ1 : Sto) (r : TV) : Prop :=
  ∀ (w : World) (ω : Lab) (κ : Nat → Value) (vs : List Value), RS w ω κ σ0 → (∀ b k, ω b = .ob k → (get σ0 k).isSome = true) → All2 (RT w ω κ σ0) args vs →
    Calls P g vs.toArray w fun e w' => ∃ v ω' κ', e = .returned v ∧ Turn w ω w' ω' ∧ RS w' ω' κ' σ1 ∧ RT w' ω' κ' σ1 r v ∧ ∀ k, (get σ0 k).isSome = true → KeyOk κ σ0 κ' σ1 k
abbrev FnP (P : Program) (g : FuncId) (args : List TV) (r : TV) : Prop := FnS P g [] args [] r

/-! Objects as trees, for reading. -/
/-- A cell as a tree, the objects in it read as they stand. -/
def toIV0 (σ : Sto) : Cell → Option IV
  | .im x => some x
  | .nl => some (.sl 0 [])
  | .ik _ n cs => some (.sl n cs)
  | .os k n => match get σ k with | some o => if o.len? = some n then some (.sl n o.cells) else none | none => none
  | .ov k n off m => match get σ k with | some o => if o.len? = some n then some (.sl m ((o.cells.drop off).take (m * o.esz))) else none | none => none
  | .rv k len off => match get σ k with | some o => if o.len? = some len then some (.pt (o.cells.drop off)) else none | none => none
  | .ns k j => match get σ k with | some o => if o.len?.isSome then o.cells[j]? else none | none => none
  | _ => none
def toIVB (σ : Sto) : List Cell → Option (List IV)
  | [] => some []
  | c :: r => (toIV0 σ c).bind fun x => (toIVB σ r).map (x :: ·)
mutual
def toIV (σ : Sto) : Cell → Option IV
  | .rf k off => match get σ k with | some (.box _ cs) => (toIVB σ cs).map fun xs => .pt (xs.drop off) | _ => none
  | .fn f caps => (toIVL σ caps).map fun xs => .fn f xs
  | c => toIV0 σ c
def toIVL (σ : Sto) : List Cell → Option (List IV)
  | [] => some []
  | c :: r => (toIV σ c).bind fun x => (toIVL σ r).map (x :: ·)
end
/-- Every object's blocks are all's. -/
def allIm (ω : Lab) : Lab := fun b => match ω b with | .ob _ => .im | l => l
theorem allIm_im {ω : Lab} {b : Nat} (h : ω b = .im) : allIm ω b = .im := by unfold allIm; rw [h]
theorem allIm_ob {ω : Lab} {b k : Nat} (h : ω b = .ob k) : allIm ω b = .im := by unfold allIm; rw [h]
theorem toIV0_ok (hS : RS w ω κ σ) {x : Cell} {y : IV} {v : Value} (h : toIV0 σ x = some y) (hx : RC w ω κ σ x v) : RI w (allIm ω) y v := by
  have hRI : ∀ k o n, get σ k = some o → o.len? = some n → RI w (allIm ω) (.sl n o.cells) (κ k) := fun k o n hk hm => ob_RI (hS.ob k o hk) hm (fun b hb => allIm_im hb) fun b hb => allIm_ob hb
  have hkp : ∀ {y : IV} {v : Value}, RI w ω y v → RI w (allIm ω) y v := fun h => h.kept fun b hb => ⟨allIm_im hb, rfl⟩
  unfold toIV0 at h
  split at h
  · obtain rfl := Option.some.inj h; cases hx with | im _ _ hx => exact hkp hx
  · obtain rfl := Option.some.inj h; cases hx; exact .slnil
  · obtain rfl := Option.some.inj h; cases hx with | ik _ _ _ _ hx => exact hkp hx
  · split at h
    · rename_i o hk
      split at h
      · rename_i hm
        obtain rfl := Option.some.inj h
        cases hx with
        | os _ _ ad c _ _ hh =>
          have := hRI _ o _ hk hm
          rw [(hh o _ hk hm).2 rfl] at this; exact this
      · cases h
    · cases h
  · split at h
    · rename_i o hk
      split at h
      · rename_i hm
        obtain rfl := Option.some.inj h
        cases hx with
        | ov _ _ _ _ ad c hmc _ hh => exact RI_ov (hRI _ o _ hk hm) hmc ((hh o _ hk hm).2 rfl)
      · cases h
    · cases h
  · split at h
    · rename_i o hk
      split at h
      · rename_i hm
        obtain rfl := Option.some.inj h
        cases hx with
        | rv _ _ _ ad hh =>
          obtain ⟨b, n, c, hkk, rfl⟩ := (hh o _ hk hm).2 rfl
          have := hRI _ o _ hk hm
          rw [hkk] at this
          obtain rfl := RI_len this
          exact RI_pt this
      · cases h
    · cases h
  · rename_i k j
    split at h
    · rename_i o hk
      split at h
      · rename_i hl
        obtain ⟨m, hm⟩ := Option.isSome_iff_exists.1 hl
        cases hx with
        | ns _ _ _ hh =>
          obtain ⟨b, n, c, hkk, hc, hcell⟩ := hh o m hk hm
          have := hRI _ o _ hk hm
          rw [hkk] at this
          obtain rfl := RI_len this
          generalize o.cells = cs at h this
          cases this with
          | sl _ _ _ a vs hd hn hm' hce hr =>
            have h1 := hce j (List.getElem?_eq_some_iff.1 h).1
            rw [addr_add_lit, hcell] at h1
            have h2 := hr j y h
            rw [← Option.some.inj h1] at h2
            exact h2
      · cases h
    · cases h
  · cases h
theorem toIVB_ok (hS : RS w ω κ σ) : ∀ {cs : List Cell} {xs : List IV} {vs : List Value}, toIVB σ cs = some xs → All2 (RC w ω κ σ) cs vs → All2 (RI w (allIm ω)) xs vs
  | [], xs, vs, h, hv => by obtain rfl := Option.some.inj h; exact ⟨hv.1, by simp⟩
  | c :: r, xs, [], h, hv => by simp [All2] at hv
  | c :: r, xs, v :: vs, h, hv => by
    simp only [toIVB] at h
    obtain ⟨x, hx, h⟩ := Option.bind_eq_some_iff.1 h
    obtain ⟨ys, hy, rfl⟩ := Option.map_eq_some_iff.1 h
    exact .cons (toIV0_ok hS hx hv.head) (toIVB_ok hS hy hv.tail)
theorem toIVL_get : ∀ {cs : List Cell} {xs : List IV}, toIVL σ cs = some xs → xs.length = cs.length ∧ ∀ (j : Nat) (x : IV), xs[j]? = some x → ∃ c, cs[j]? = some c ∧ toIV σ c = some x
  | [], xs, h => by simp [toIVL] at h; subst h; simp
  | c :: r, xs, h => by
    simp only [toIVL] at h
    obtain ⟨x, hx, h⟩ := Option.bind_eq_some_iff.1 h
    obtain ⟨ys, hy, rfl⟩ := Option.map_eq_some_iff.1 h
    obtain ⟨h1, h2⟩ := toIVL_get hy
    refine ⟨by simp [h1], fun j z hz => ?_⟩
    cases j with
    | zero => simp at hz; subst hz; exact ⟨c, rfl, hx⟩
    | succ j => simpa using h2 j z (by simpa using hz)
theorem toIV_ok (hS : RS w ω κ σ) {x : Cell} {v : Value} (hx : RC w ω κ σ x v) : ∀ {y : IV}, toIV σ x = some y → RI w (allIm ω) y v := by
  induction hx with
  | rf k off b hb =>
    intro y h
    simp only [toIV] at h
    split at h
    · rename_i t cs hk
      obtain ⟨xs, hxs, rfl⟩ := Option.map_eq_some_iff.1 h
      obtain ⟨b', vs, h1, h2, h3, h4, h5, _⟩ := hS.ob k _ hk
      have : b = b' := by rw [h1] at hb; simpa using hb.symm
      subst this
      have h6 := toIVB_ok hS hxs h4
      refine .pt _ _ (fun i => vs.toList.getD (off + i) undef) (fun _ => allIm_ob h2) (fun i hi => ?_) fun i x hx => ?_
      · rw [Addr.add_lit, cell_row h3]
        have : off + i < vs.size := by have := h6.1; simp at hi this; omega
        simp [List.getD, this]
      · rw [List.getElem?_drop] at hx
        obtain ⟨u, hu, hr⟩ := h6.get hx
        have : vs.toList.getD (off + i) undef = u := by rw [List.getD, hu]; rfl
        rw [this]; exact hr
    · cases h
  | fn f caps vs hl hc ih =>
    intro y h
    simp only [toIV] at h
    obtain ⟨xs, hxs, rfl⟩ := Option.map_eq_some_iff.1 h
    obtain ⟨h1, h2⟩ := toIVL_get hxs
    refine .fn f xs vs (by rw [hl, h1]) fun j x hx => ?_
    obtain ⟨c, hc', hx'⟩ := h2 j x hx
    exact ih j c hc' hx'
  | im x v hx => intro y h; simp only [toIV] at h; exact toIV0_ok hS h (.im x v hx)
  | nl => intro y h; simp only [toIV] at h; exact toIV0_ok hS h .nl
  | ik c n cs a hx => intro y h; simp only [toIV] at h; exact toIV0_ok hS h (.ik c n cs a hx)
  | rv k len off a hh => intro y h; simp only [toIV] at h; exact toIV0_ok hS h (.rv k len off a hh)
  | os k n a c h1 h2 hh => intro y h; simp only [toIV] at h; exact toIV0_ok hS h (.os k n a c h1 h2 hh)
  | ov k n off m a c h1 h2 hh => intro y h; simp only [toIV] at h; exact toIV0_ok hS h (.ov k n off m a c h1 h2 hh)
  | ns k j v hh => intro y h; simp only [toIV] at h; exact toIV0_ok hS h (.ns k j v hh)
  | mp => intro y h; simp [toIV, toIV0] at h
  | bad => intro y h; simp [toIV, toIV0] at h

/-- Scalars, and what leads to objects alone: nothing that is all's. -/
def pureC : Cell → Bool
  | .im (.sc _) | .nl | .rf _ _ | .rv _ _ _ | .os _ _ | .ov _ _ _ _ | .mp _ => true
  | _ => false
def pureL : List Cell → Bool
  | [] => true
  | c :: r => pureC c && pureL r
def pureT1 : TV → Bool
  | .c x => pureC x
  | .ag cs => pureL cs
  | .tp _ => false
def pureT : TV → Bool
  | .tp ts => ts.all pureT1
  | x => pureT1 x
def pureS : Sto → Bool
  | [] => true
  | (_, .box _ cs) :: r => pureL cs && pureS r
  | (_, .vec _ _ _ _ own) :: r => own && pureS r
  | (_, .row _ _) :: r => pureS r
  | (_, .map _ _) :: r => pureS r
  | (_, .gl _ _) :: r => false
theorem pureL_mem {cs : List Cell} (h : pureL cs = true) : ∀ c ∈ cs, pureC c = true := by
  induction cs with
  | nil => simp
  | cons c r ih =>
    simp only [pureL, Bool.and_eq_true] at h
    intro d hd
    rcases List.mem_cons.1 hd with rfl | hd
    · exact h.1
    · exact ih h.2 d hd
theorem pureS_get {σ : Sto} (h : pureS σ = true) {k : Nat} {o : Ob} (hg : get σ k = some o) : ((∀ t cs, o = .box t cs → pureL cs = true) ∧ ∀ t e n cs own, o = .vec t e n cs own → own = true) ∧ ∀ b x, o ≠ .gl b x := by
  induction σ with
  | nil => cases hg
  | cons p r ih =>
    obtain ⟨j, q⟩ := p
    rw [get_cons] at hg
    cases q with
    | box t cs =>
      simp only [pureS, Bool.and_eq_true] at h
      split at hg
      · injection hg with hg; subst hg
        refine ⟨⟨fun t' cs' e => ?_, fun t' e' n' cs' own' e => ?_⟩, fun _ _ e => by cases e⟩
        · injection e with _ q2; subst q2; exact h.1
        · cases e
      · exact ih h.2 hg
    | vec t e n cs own =>
      simp only [pureS, Bool.and_eq_true] at h
      split at hg
      · injection hg with hg; subst hg
        refine ⟨⟨fun t' cs' e => ?_, fun t' e' n' cs' own' e => ?_⟩, fun _ _ e => by cases e⟩
        · cases e
        · injection e with _ _ _ _ q; subst q; exact h.1
      · exact ih h.2 hg
    | row n cs =>
      simp only [pureS] at h
      split at hg
      · injection hg with hg; subst hg
        refine ⟨⟨fun t' cs' e => ?_, fun t' e' n' cs' own' e => ?_⟩, fun _ _ e => by cases e⟩
        · cases e
        · cases e
      · exact ih h hg
    | map d f =>
      simp only [pureS] at h
      split at hg
      · injection hg with hg; subst hg
        refine ⟨⟨fun t' cs' e => ?_, fun t' e' n' cs' own' e => ?_⟩, fun _ _ e => by cases e⟩
        · cases e
        · cases e
      · exact ih h hg
    | gl d f => simp [pureS] at h
theorem RI_sc {x : IV} {v : Value} (h : RI w ω x v) (hs : ∃ u, x = .sc u) : RI w' ω' x v := by
  obtain ⟨u, rfl⟩ := hs
  cases h with | sc _ h => exact .sc _ h
theorem RC.stepP {x : Cell} {v : Value} (h : RC w ω κ σ x v) (hp : pureC x = true) (hk : ∀ k, x.has k = true → KeyOk κ σ κ' σ' k) : RC w' ω' κ' σ' x v := by
  cases h with
  | im x v h =>
    cases x with
    | sc u => exact .im _ _ (RI_sc h ⟨u, rfl⟩)
    | _ => cases hp
  | nl => exact .nl
  | ik => cases hp
  | fn => cases hp
  | ns => cases hp
  | bad => cases hp
  | rf k off b h =>
    have := (hk k (by simp [Cell.has])).1 (by rw [h]; rfl)
    exact .rf k off b (this.trans h)
  | mp k r h =>
    have := (hk k (by simp [Cell.has])).1 (by rw [h]; rfl)
    exact .mp k r (this.trans h)
  | rv k len off a h =>
    refine .rv k len off a fun o' m' hg hm => ?_
    obtain ⟨o, m, h1, h2, h3, h4⟩ := (hk k (by simp [Cell.has])).2 o' m' hg hm
    obtain ⟨h5, h6⟩ := h o m h1 h2
    refine ⟨by omega, fun hl => ?_⟩
    rw [h4 (by omega)]; exact h6 (by omega)
  | os k n a c hc hz h =>
    refine .os k n a c hc hz fun o' m' hg hm => ?_
    obtain ⟨o, m, h1, h2, h3, h4⟩ := (hk k (by simp [Cell.has])).2 o' m' hg hm
    obtain ⟨h5, h6⟩ := h o m h1 h2
    refine ⟨by omega, fun hl => ?_⟩
    rw [h4 (by omega)]; exact h6 (by omega)
  | ov k n off l a c hc hz h =>
    refine .ov k n off l a c hc hz fun o' m' hg hm => ?_
    obtain ⟨o, m, h1, h2, h3, h4⟩ := (hk k (by simp [Cell.has])).2 o' m' hg hm
    obtain ⟨h5, h6⟩ := h o m h1 h2
    refine ⟨by omega, fun hl => ?_⟩
    rw [h4 (by omega)]; exact h6 (by omega)
theorem RT1.stepP {x : TV} {v : Value} (h : RT1 w ω κ σ x v) (hp : pureT1 x = true) (hk : ∀ k, x.has k = true → KeyOk κ σ κ' σ' k) : RT1 w' ω' κ' σ' x v := by
  cases x with
  | c x => exact RC.stepP h hp hk
  | ag cs =>
    obtain ⟨vs, rfl, h1, h2⟩ := h
    exact ⟨vs, rfl, h1.imp fun x y hx hxy => hxy.stepP (pureL_mem hp x hx) fun k hkk => hk k (hasL_of_mem hx hkk), h2⟩
  | tp ts => exact h.elim
theorem RT.stepP {x : TV} {v : Value} (h : RT w ω κ σ x v) (hp : pureT x = true) (hk : ∀ k, x.has k = true → KeyOk κ σ κ' σ' k) : RT w' ω' κ' σ' x v := by
  cases x with
  | c x => exact RC.stepP h hp hk
  | ag cs => exact RT1.stepP (x := .ag cs) h hp hk
  | tp ts =>
    obtain ⟨vs, rfl, h1⟩ := h
    refine ⟨vs, rfl, h1.imp fun x y hx hxy => RT1.stepP hxy (List.all_eq_true.1 hp x hx) fun k hkk => hk k ?_⟩
    simp only [TV.has, List.any_eq_true]
    refine ⟨x, hx, ?_⟩
    cases x <;> first | exact hkk | exact hxy.elim
theorem ObOk.stepP {k : Nat} {o : Ob} (h : ObOk w ω κ σ k o) (hp : ((∀ t cs, o = .box t cs → pureL cs = true) ∧ ∀ t e n cs own, o = .vec t e n cs own → own = true) ∧ ∀ b x, o ≠ .gl b x) (hκ : κ' k = κ k) (ho : ∀ b, ω b = .ob k → ω' b = .ob k ∧ w'.heap[b]? = w.heap[b]?)
    (hkey : ∀ t cs, o = .box t cs → ∀ i, hasL i cs = true → KeyOk κ σ κ' σ' i) : ObOk w' ω' κ' σ' k o := by
  cases o with
  | box t cs =>
    obtain ⟨b, vs, h1, h2, h3, h4, h5, h6⟩ := h
    exact ⟨b, vs, hκ.trans h1, (ho b h2).1, by rw [(ho b h2).2]; exact h3, h4.imp fun x y hx hxy => hxy.stepP (pureL_mem (hp.1.1 t cs rfl) x hx) fun i hi => hkey t cs rfl i (hasL_of_mem hx hi), h5, h6⟩
  | vec t e n cs own =>
    obtain ⟨h0, xs, h1, h2, h3⟩ := h
    obtain rfl := hp.1.2 t e n cs own rfl
    refine ⟨h0, xs, by rw [hκ]; exact h1.kept fun b hb => (ho b (h2 b hb)).2, fun b hb => by rw [hκ] at hb; exact (ho b (h2 b hb)).1, ?_⟩
    rw [hκ]
    exact OwnC.kept h3 ho
  | row n cs =>
    obtain ⟨S, h1, h2⟩ := h
    exact ⟨S, by rw [hκ]; exact h1.kept fun b hb => (ho b (h2 b hb)).2, fun b hb => (ho b (h2 b hb)).1⟩
  | map d f =>
    obtain ⟨r, es, clock, h1, h2, h3, h4⟩ := h
    exact ⟨r, es, clock, hκ.trans h1, (ho r h2).1, by rw [(ho r h2).2]; exact h3, h4⟩
  | gl b x => exact absurd rfl (hp.2 b x)
end
end Go.VC
/- Calls. -/
set_option linter.unusedSimpArgs false
set_option linter.unusedVariables false
namespace Go.VC
open Go Go.RowKit
section
variable {β : Base} {w w' : World} {ω ω' : Lab} {κ κ' : Nat → Value} {σ σ' : Sto} {E : Env} {a : Act} {s : St} {P : Program}

def dom (σ : Sto) : List Nat := σ.map (·.1)
theorem dom_get {σ : Sto} {k : Nat} : k ∈ dom σ ↔ (get σ k).isSome = true := by
  induction σ with
  | nil => simp [dom, Go.VC.get]
  | cons p r ih =>
    obtain ⟨j, o⟩ := p
    rw [get_cons]
    simp only [dom, List.map_cons, List.mem_cons] at ih ⊢
    by_cases h : k = j
    · simp [h]
    · simp [h]; simpa using ih
/-- What the callee sees. -/
def seenL (ω : Lab) (σ0 : Sto) (l : Lb) : Lab := fun b => match ω b with
  | .ob k => if (get σ0 k).isSome then .ob k else l
  | x => x
/-- What the caller sees behind the call. -/
def backL (ω : Lab) (σ0 : Sto) (n : Nat) (ωc : Lab) : Lab := fun b => match ω b with
  | .ob k => if (get σ0 k).isSome then ωc b else .ob k
  | .im => .im
  | .no => if b < n then .no else ωc b
def backK (κ : Nat → Value) (σ0 σ1 : Sto) (κc : Nat → Value) : Nat → Value := fun k => if (get σ0 k).isSome ∨ (get σ1 k).isSome then κc k else κ k
def backS (σ σ0 σ1 : Sto) : Sto := σ1 ++ delL σ (dom σ0)
theorem get_backS (σ σ0 σ1 : Sto) (k : Nat) : get (backS σ σ0 σ1) k = match get σ1 k with | some o => some o | none => if (get σ0 k).isSome then none else get σ k := by
  unfold backS
  rw [get_append, get_delL]
  cases h : get σ1 k with
  | some o => rfl
  | none => simp [dom_get]
/-- An argument, as the callee sees it. -/
def ArgOk (σ : Sto) (x y : TV) : Prop := y = x ∨ match x with
  | .c x => ∃ z, toIV σ x = some z ∧ y = .c (.im z)
  | .ag cs => ∃ zs, toIVL σ cs = some zs ∧ y = .ag (zs.map .im)
  | .tp _ => False
def ArgsOk (σ : Sto) : List TV → List TV → Prop
  | [], [] => True
  | x :: xs, y :: ys => ArgOk σ x y ∧ ArgsOk σ xs ys
  | _, _ => False
theorem toIVL_ok (hS : RS w ω κ σ) {cs : List Cell} {zs : List IV} {vs : List Value} (h : toIVL σ cs = some zs) (hv : All2 (RC w ω κ σ) cs vs) : All2 (RI w (allIm ω)) zs vs := by
  obtain ⟨h1, h2⟩ := toIVL_get h
  refine ⟨by rw [h1, hv.1], fun j x v hx hxv => ?_⟩
  obtain ⟨c, hc, hcx⟩ := h2 j x hx
  exact toIV_ok hS (hv.2 j c v hc hxv) hcx

theorem seen_im {σ0 : Sto} {l : Lb} {b : Nat} (h : ω b = .im) : seenL ω σ0 l b = .im := by unfold seenL; rw [h]
theorem seen_no {σ0 : Sto} {l : Lb} {b : Nat} (h : ω b = .no) : seenL ω σ0 l b = .no := by unfold seenL; rw [h]
theorem seen_in {σ0 : Sto} {l : Lb} {b k : Nat} (h : ω b = .ob k) (hk : (get σ0 k).isSome = true) : seenL ω σ0 l b = .ob k := by unfold seenL; rw [h]; simp [hk]
theorem seen_out {σ0 : Sto} {l : Lb} {b k : Nat} (h : ω b = .ob k) (hk : (get σ0 k).isSome = false) : seenL ω σ0 l b = l := by unfold seenL; rw [h]; simp [hk]

/-- What the callee is handed. -/
theorem seen_ok (hS : RS w ω κ σ) {σ0 : Sto} {l : Lb} (hl : l = .im ∨ l = .no) (hsub : ∀ k o, get σ0 k = some o → get σ k = some o) : RS w (seenL ω σ0 l) κ σ0 ∧ (∀ b k, seenL ω σ0 l b = .ob k → (get σ0 k).isSome = true) ∧ ∀ x v, RT w ω κ σ x v → RT w (seenL ω σ0 l) κ σ0 x v := by
  have hkey : ∀ k, KeyOk κ σ κ σ0 k := fun k => ⟨fun _ => rfl, fun o m ho hm => ⟨o, m, hsub k o ho, hm, Nat.le_refl _, fun _ => rfl⟩⟩
  have him : ∀ b, ω b = .im → seenL ω σ0 l b = .im ∧ w.heap[b]? = w.heap[b]? := fun b hb => ⟨seen_im hb, rfl⟩
  refine ⟨⟨fun k o hk => (hS.ob k o (hsub k o hk)).step rfl (fun b hb => ⟨seen_in hb (by rw [hk]; rfl), rfl⟩) him fun _ _ _ i _ => hkey i, fun b hb => hS.dom b fun e => hb (seen_no e)⟩, fun b k hb => ?_, fun x v hx => hx.step ⟨him, fun k _ => hkey k, fun k _ o m ho hm => ⟨⟨o, m, hsub k o ho, hm⟩, rfl, fun _ _ _ _ _ => rfl⟩⟩⟩
  cases hw : ω b with
  | no => rw [seen_no hw] at hb; cases hb
  | im => rw [seen_im hw] at hb; cases hb
  | ob j =>
    cases hj : (get σ0 j).isSome with
    | true => rw [seen_in hw hj] at hb; injection hb with hb; subst hb; exact hj
    | false => rw [seen_out hw hj] at hb; subst hb; rcases hl with h | h <;> cases h

/-- Does it name keys of these alone? -/
def keysIn (σ0 σ1 : Sto) (ks : List Nat) : Bool := ks.all fun k => (get σ0 k).isSome || (get σ1 k).isSome
def keysInS (σ0 σ1 : Sto) : Sto → Bool
  | [] => true
  | (_, .box _ cs) :: r => keysIn σ0 σ1 (keysL cs) && keysInS σ0 σ1 r
  | _ :: r => keysInS σ0 σ1 r
theorem keysInS_get {σ0 σ1 : Sto} : ∀ {σ : Sto}, keysInS σ0 σ1 σ = true → ∀ {k t cs}, get σ k = some (.box t cs) → keysIn σ0 σ1 (keysL cs) = true
  | [], _, _, _, _, h => by cases h
  | (j, q) :: r, h, k, t, cs, hg => by
    rw [get_cons] at hg
    cases q with
    | box t' cs' =>
      simp only [keysInS, Bool.and_eq_true] at h
      split at hg
      · injection hg with hg; injection hg with _ q; subst q; exact h.1
      · exact keysInS_get h.2 hg
    | vec =>
      simp only [keysInS] at h
      split at hg
      · injection hg with hg; cases hg
      · exact keysInS_get h hg
    | row =>
      simp only [keysInS] at h
      split at hg
      · injection hg with hg; cases hg
      · exact keysInS_get h hg
    | map =>
      simp only [keysInS] at h
      split at hg
      · injection hg with hg; cases hg
      · exact keysInS_get h hg
    | gl =>
      simp only [keysInS] at h
      split at hg
      · injection hg with hg; cases hg
      · exact keysInS_get h hg
/-- Are the new objects' keys new? -/
def freshB (s : St) (σ0 σ1 : Sto) : Bool := (dom σ1).all fun k => (get σ0 k).isSome || (decide (k % 2 = 0) && noE k s.E && noS k s.σ)
/-- Nothing tells what stands in the rows that are handed over. -/
def nnAll (s : St) (σ0 : Sto) : Bool := (dom σ0).all fun k => nnE k s.E

/-- **Behind a call.** -/
theorem Rel.back (h : Rel β ω κ s a w) {σ0 σ1 : Sto} {l : Lb} {r : TV} {v : Value} {ωc : Lab} {κc : Nat → Value} (hsub : ∀ k o, get σ0 k = some o → get s.σ k = some o) (hl : l = .im ∧ pureT r = true ∧ pureS σ1 = true ∨ l = .no)
    (ht : Turn w (seenL ω σ0 l) w' ωc) (hS : RS w' ωc κc σ1) (hr : RT w' ωc κc σ1 r v) (hk : ∀ k, (get σ0 k).isSome = true → KeyOk κ σ0 κc σ1 k) (hki : keysIn σ0 σ1 r.keys = true) (hks : keysInS σ0 σ1 σ1 = true)
    (hf : freshB s σ0 σ1 = true) (hnn : nnAll s σ0 = true) {d : Nat} (hd : d < s.N) : RelE β ⟨s.N, (d, r) :: s.E, backS s.σ σ0 σ1⟩ (a.put (some d) v) w' := by
  have hcb : ∀ b k, ωc b = .ob k → backL ω σ0 w.heap.size ωc b = .ob k := fun b k hb => by
    unfold backL
    cases hw : ω b with
    | im => have := ht.im b (seen_im hw); rw [hb] at this; cases this
    | no =>
      by_cases hlt : b < w.heap.size
      · have := ht.no b hlt (seen_no hw); rw [hb] at this; cases this
      · simp [hlt, hb]
    | ob j =>
      simp only
      cases hj : (get σ0 j).isSome with
      | true => simp [hb]
      | false =>
        have hlt := h.rs.dom b (by rw [hw]; simp)
        rcases hl with ⟨rfl, _⟩ | rfl
        · have := ht.im b (seen_out hw hj); rw [hb] at this; cases this
        · have := ht.no b hlt (seen_out hw hj); rw [hb] at this; cases this
  have hold : ∀ b j, ω b = .ob j → (get σ0 j).isSome = false → backL ω σ0 w.heap.size ωc b = .ob j ∧ w'.heap[b]? = w.heap[b]? := fun b j hb hj => by
    refine ⟨by unfold backL; rw [hb]; simp [hj], ht.block b (h.rs.dom b (by rw [hb]; simp)) fun k hk' => ?_⟩
    rw [seen_out hb hj] at hk'
    rcases hl with ⟨rfl, _⟩ | rfl <;> cases hk'
  have him : ∀ b, ω b = .im → backL ω σ0 w.heap.size ωc b = .im ∧ w'.heap[b]? = w.heap[b]? := fun b hb =>
    ⟨by unfold backL; rw [hb], ht.block b (h.rs.dom b (by rw [hb]; simp)) fun k hk' => by rw [seen_im hb] at hk'; cases hk'⟩
  have hnew : ∀ k, (get σ1 k).isSome = true → (get σ0 k).isSome = false → k % 2 = 0 ∧ noE k s.E = true ∧ noS k s.σ = true := fun k h1 h2 => by
    have := List.all_eq_true.1 hf k (dom_get.2 h1)
    simp only [h2, Bool.false_or, Bool.and_eq_true, decide_eq_true_eq] at this
    exact ⟨this.1.1, this.1.2, this.2⟩
  -- an old key that is no new one
  have hkey : ∀ k, ((get σ1 k).isSome = true → (get σ0 k).isSome = true) → KeyOk κ s.σ (backK κ σ0 σ1 κc) (backS s.σ σ0 σ1) k := fun k hno => by
    cases h0 : (get σ0 k).isSome with
    | true =>
      have hk0 := hk k h0
      refine ⟨fun hst => ?_, fun o' m' ho hm => ?_⟩
      · unfold backK; rw [if_pos (.inl h0)]; exact hk0.1 hst
      · rw [get_backS] at ho
        split at ho
        · rename_i o1 h1
          obtain rfl := Option.some.inj ho
          obtain ⟨o, m, g1, g2, g3, g4⟩ := hk0.2 o1 m' h1 hm
          exact ⟨o, m, hsub k o g1, g2, g3, fun e => by unfold backK; rw [if_pos (.inl h0)]; exact g4 e⟩
        · rw [if_pos h0] at ho; cases ho
    | false =>
      have h1 : (get σ1 k).isSome = false := by
        cases h1 : (get σ1 k).isSome with
        | false => rfl
        | true => rw [hno h1] at h0; cases h0
      have hκ : backK κ σ0 σ1 κc k = κ k := by unfold backK; rw [if_neg (by simp [h0, h1])]
      refine ⟨fun _ => hκ, fun o' m' ho hm => ?_⟩
      rw [get_backS] at ho
      cases h1' : get σ1 k with
      | some o => rw [h1'] at h1; cases h1
      | none =>
        rw [h1'] at ho
        simp only [h0, Bool.false_eq_true, if_false] at ho
        exact ⟨o', m', ho, hm, Nat.le_refl _, fun _ => hκ⟩
  -- a key that the callee has named
  have hkc : ∀ k, (get σ0 k).isSome = true ∨ (get σ1 k).isSome = true → KeyOk κc σ1 (backK κ σ0 σ1 κc) (backS s.σ σ0 σ1) k := fun k hk' => by
    have hκ : backK κ σ0 σ1 κc k = κc k := by unfold backK; rw [if_pos hk']
    refine ⟨fun _ => hκ, fun o' m' ho hm => ?_⟩
    rw [get_backS] at ho
    split at ho
    · rename_i o1 h1
      obtain rfl := Option.some.inj ho
      exact ⟨o1, m', h1, hm, Nat.le_refl _, fun _ => hκ⟩
    · rename_i h1
      rcases hk' with hk' | hk'
      · rw [if_pos hk'] at ho; cases ho
      · rw [h1] at hk'; cases hk'
  have hin : ∀ {ks : List Nat}, keysIn σ0 σ1 ks = true → ∀ k ∈ ks, (get σ0 k).isSome = true ∨ (get σ1 k).isSome = true := fun hks k hk' => by
    have := List.all_eq_true.1 hks k hk'
    simpa using this
  have himc : l = .no → ∀ b, ωc b = .im → backL ω σ0 w.heap.size ωc b = .im ∧ w'.heap[b]? = w'.heap[b]? := fun hln b hb => by
    refine ⟨?_, rfl⟩
    unfold backL
    cases hw : ω b with
    | im => rfl
    | no =>
      by_cases hlt : b < w.heap.size
      · have := ht.no b hlt (seen_no hw); rw [hb] at this; cases this
      · simp [hlt, hb]
    | ob j =>
      simp only
      cases hj : (get σ0 j).isSome with
      | true => simp [hb]
      | false =>
        have := ht.no b (h.rs.dom b (by rw [hw]; simp)) (by rw [seen_out hw hj, hln])
        rw [hb] at this; cases this
  have hrs : RS w' (backL ω σ0 w.heap.size ωc) (backK κ σ0 σ1 κc) (backS s.σ σ0 σ1) := by
    refine ⟨fun k o ho => ?_, fun b hb => ?_⟩
    · rw [get_backS] at ho
      split at ho
      · rename_i o1 h1
        obtain rfl := Option.some.inj ho
        have hob := hS.ob k o1 h1
        have hκ : backK κ σ0 σ1 κc k = κc k := by unfold backK; rw [if_pos (.inr (by rw [h1]; rfl))]
        have hbk : ∀ t cs, o1 = .box t cs → ∀ i, hasL i cs = true → KeyOk κc σ1 (backK κ σ0 σ1 κc) (backS s.σ σ0 σ1) i := fun t cs e i hi => by
          subst e
          exact hkc i (hin (keysInS_get hks h1) i (hasL_keys i cs hi))
        rcases hl with ⟨_, _, hp⟩ | hln
        · exact hob.stepP (pureS_get hp h1) hκ (fun b hb => ⟨hcb b k hb, rfl⟩) hbk
        · exact hob.step hκ (fun b hb => ⟨hcb b k hb, rfl⟩) (himc hln) hbk
      · rename_i h1
        cases h0 : (get σ0 k).isSome with
        | true => rw [if_pos h0] at ho; cases ho
        | false =>
          simp only [h0, Bool.false_eq_true, if_false] at ho
          have hκ : backK κ σ0 σ1 κc k = κ k := by unfold backK; rw [if_neg (by simp [h0, h1])]
          refine (h.rs.ob k o ho).step hκ (fun b hb => hold b k hb h0) him fun t cs e i hi => ?_
          subst e
          refine hkey i fun hi1 => ?_
          cases hi0 : (get σ0 i).isSome with
          | true => rfl
          | false => rw [noS_get (hnew i hi1 hi0).2.2 ho] at hi; cases hi
    · unfold backL at hb
      cases hw : ω b with
      | im => exact Nat.lt_of_lt_of_le (h.rs.dom b (by rw [hw]; simp)) ht.size
      | ob j => exact Nat.lt_of_lt_of_le (h.rs.dom b (by rw [hw]; simp)) ht.size
      | no =>
        rw [hw] at hb
        simp only at hb
        split at hb
        · cases hb rfl
        · exact hS.dom b hb
  have hrel : Rel β (backL ω σ0 w.heap.size ωc) (backK κ σ0 σ1 κc) ⟨s.N, s.E, backS s.σ σ0 σ1⟩ a w' := by
    refine ⟨h.turn.trans ⟨ht.os, ht.tape, ht.output, ht.size, fun b hb hk' => ?_, fun b hb => (him b hb).1, fun b hb hno => by unfold backL; rw [hno]; simp [hb]⟩, fun k hk' => (h.keys k hk').trans (hkey k fun h1 => ?_), h.odd, h.defers, h.size, fun t x hx => ⟨(h.env t x hx).1, (h.env t x hx).2.step ⟨him, fun k hkx => hkey k fun h1 => ?_, fun k hkx o' m' ho hm => ?_⟩⟩, hrs⟩
    · refine ht.block b hb fun k hk'' => ?_
      cases hw : ω b with
      | im => rw [seen_im hw] at hk''; cases hk''
      | no => rw [seen_no hw] at hk''; cases hk''
      | ob j => exact hk' j hw
    · cases h0 : (get σ0 k).isSome with
      | true => rfl
      | false => have := (hnew k h1 h0).1; have := h.odd k hk'; omega
    · cases h0 : (get σ0 k).isSome with
      | true => rfl
      | false => rw [noE_get (hnew k h1 h0).2.1 hx] at hkx; cases hkx
    · cases h0 : (get σ0 k).isSome with
      | true =>
        have := List.all_eq_true.1 hnn k (dom_get.2 h0)
        rw [nnE_get this hx] at hkx; cases hkx
      | false =>
        have h1 : (get σ1 k).isSome = false := by
          cases h1 : (get σ1 k).isSome with
          | false => rfl
          | true => have := hasNT_has k x hkx; rw [noE_get (hnew k h1 h0).2.1 hx] at this; cases this
        rw [get_backS] at ho
        cases h1' : get σ1 k with
        | some o => rw [h1'] at h1; cases h1
        | none =>
          rw [h1'] at ho
          simp only [h0, Bool.false_eq_true, if_false] at ho
          refine ⟨⟨o', m', ho, hm⟩, by unfold backK; rw [if_neg (by simp [h0, h1])], fun b n c hv hc => (hold b k ?_ h0).2⟩
          have hob := h.rs.ob k o' ho
          cases o' with
          | box => cases hm
          | map => cases hm
          | gl => cases hm
          | vec t' e' n' cs own =>
            obtain ⟨_, xs, _, h3, _⟩ := hob
            exact h3 b (by rw [hv, rowB_some hc])
          | row n' cs =>
            obtain ⟨S, h3, h4⟩ := hob
            rw [hv] at h3
            cases h3 with
            | z => omega
            | sl _ _ _ _ _ _ _ _ _ _ _ _ _ _ _ _ h5 => exact h4 b ((h5 b).2 (.inl rfl))
  have hrv : RT w' (backL ω σ0 w.heap.size ωc) (backK κ σ0 σ1 κc) (backS s.σ σ0 σ1) r v := by
    have hkr : ∀ k, r.has k = true → KeyOk κc σ1 (backK κ σ0 σ1 κc) (backS s.σ σ0 σ1) k := fun k hk' => hkc k (hin hki k (hasT_keys k r hk'))
    rcases hl with ⟨_, hp, _⟩ | hln
    · exact hr.stepP hp hkr
    · refine hr.step ⟨himc hln, hkr, fun k hk' o' m' ho hm => ?_⟩
      rw [get_backS] at ho
      split at ho
      · rename_i o1 h1
        obtain rfl := Option.some.inj ho
        exact ⟨⟨o1, m', h1, hm⟩, by unfold backK; rw [if_pos (.inr (by rw [h1]; rfl))], fun _ _ _ _ _ => rfl⟩
      · rename_i h1
        rcases hin hki k (hasT_keys k r (hasNT_has k r hk')) with h0 | h0
        · rw [if_pos h0] at ho; cases ho
        · rw [h1] at h0; cases h0
  exact ⟨_, _, hrel.put hd hrv⟩
end
end Go.VC
/- What each operation comes to in a frame. -/
set_option linter.unusedSimpArgs false
set_option linter.unusedVariables false
namespace Go.VC
open Go Go.RowKit
section
variable {β : Base} {w w' : World} {ω ω' : Lab} {κ κ' : Nat → Value} {σ σ' : Sto} {E : Env} {a : Act} {s : St} {P : Program}

/-- A mark that keeps the simplifier out of what it marks. -/
inductive Tg.{u} {α : Sort u} (x : α) : Type
  | mk

/-! Sharing a row's trees. -/
def St.share (s : St) (k : Nat) : St := match get s.σ k with
  | some (.vec t e n cs true) => ⟨s.N, s.E, upd s.σ k (.vec t e n cs false)⟩
  | _ => s
theorem Rel.share (h : Rel β ω κ s a w) (k : Nat) (hn : nnE k s.E = true) : ∃ ω', Rel β ω' κ (s.share k) a w := by
  unfold St.share
  split
  · rename_i t e n cs hk
    have hsome : (get s.σ k).isSome = true := by rw [hk]; rfl
    obtain ⟨h0, xs, h1, h2, h3⟩ := h.rs.ob k _ hk
    obtain ⟨h4, Ss, h5, h6, h7⟩ : OwnC w ω k (rowB (κ k)) cs xs := h3
    refine ⟨fun b => if ω b = .ob k ∧ some b ≠ rowB (κ k) then .im else ω b, h.change k ⟨rfl, rfl, rfl, Nat.le_refl _, fun _ _ _ => rfl, fun b hb => by simp [hb], fun b _ hb => by simp [hb]⟩ (fun b hb => ?_) (fun _ _ => rfl) (fun j hj => .inr ⟨by rw [get_upd _ _ _ _ hsome, if_neg hj], fun b hb => ⟨by rw [if_neg (by rw [hb]; simp; intro e; exact absurd e hj), hb], rfl⟩⟩) (fun o ho => ?_) (.inl ⟨fun _ => rfl, fun o' m' ho hm => ?_⟩) hn⟩
    · split at hb
      · rename_i hc; exact h.rs.dom b (by rw [hc.1]; simp)
      · exact h.rs.dom b hb
    · rw [get_upd _ _ _ _ hsome, if_pos rfl] at ho
      obtain rfl := Option.some.inj ho
      refine ⟨h0, xs, h1, fun b hb => by show (if ω b = .ob k ∧ some b ≠ rowB (κ k) then Lb.im else ω b) = _; rw [if_neg (by rw [hb]; simp)]; exact h2 b hb, ?_⟩
      refine ⟨h4, fun j x v hx hv => (h5 j x v hx hv).im fun b hb => ?_⟩
      have := h7 j b (List.getElem?_eq_some_iff.1 hx).1 hb
      show (if ω b = .ob k ∧ some b ≠ rowB (κ k) then Lb.im else ω b) = _
      rw [if_pos this]
    · rw [get_upd _ _ _ _ hsome, if_pos rfl] at ho
      obtain rfl := Option.some.inj ho
      exact ⟨_, m', hk, hm, Nat.le_refl _, fun _ => rfl⟩
  · exact ⟨ω, h⟩
/-- An own row is taken for one of a fixed length. -/
def St.toRow (s : St) (k : Nat) : St := match get s.σ k with
  | some (.vec t e n cs true) => ⟨s.N, s.E, upd s.σ k (.row n cs)⟩
  | _ => s
theorem Rel.toRow (h : Rel β ω κ s a w) (k : Nat) (hn : nnE k s.E = true) : Rel β ω κ (s.toRow k) a w := by
  unfold St.toRow
  split
  · rename_i t e n cs hk
    have hsome : (get s.σ k).isSome = true := by rw [hk]; rfl
    refine h.change k (Turn.refl _ _) h.rs.dom (fun _ _ => rfl) (fun j hj => .inr ⟨by rw [get_upd _ _ _ _ hsome, if_neg hj], fun b hb => ⟨hb, rfl⟩⟩) (fun o ho => ?_) (.inl ⟨fun _ => rfl, fun o' m' ho hm => ?_⟩) hn
    · rw [get_upd _ _ _ _ hsome, if_pos rfl] at ho
      obtain rfl := Option.some.inj ho
      obtain ⟨S, h1, h2⟩ := vec_RO (h.rs.ob k _ hk)
      exact ⟨S, h1, h2⟩
    · rw [get_upd _ _ _ _ hsome, if_pos rfl] at ho
      obtain rfl := Option.some.inj ho
      exact ⟨_, m', hk, hm, Nat.le_refl _, fun _ => rfl⟩
  · exact h

/-! What moves. -/
def Ob.own : Ob → Bool
  | .vec _ _ _ _ own => own
  | .row _ _ => true
  | _ => false
def allSc : List IV → Bool
  | [] => true
  | .sc _ :: r => allSc r
  | _ => false
theorem allSc_mem {ys : List IV} (h : allSc ys = true) : ∀ x ∈ ys, ∃ v, x = .sc v := by
  induction ys with
  | nil => simp
  | cons x r ih =>
    cases x with
    | sc v =>
      intro y hy
      rcases List.mem_cons.1 hy with rfl | hy
      · exact ⟨v, rfl⟩
      · exact ih h y hy
    | _ => cases h
theorem src_flat {ys : List IV} {vs : List Value} (h : All2 (fun x v => RI w ω x v ∨ ∃ S, RO w x v S) ys vs) (hs : allSc ys = true) (own : Bool) : Src w ω [] own ys vs := by
  have hsc : ∀ (j : Nat) (x : IV) (v : Value), ys[j]? = some x → vs[j]? = some v → ∃ u, x = IV.sc u ∧ v = u ∧ scalarB u = true := fun j x v hx hv => by
    obtain ⟨u, rfl⟩ := allSc_mem hs x (List.mem_of_getElem? hx)
    rcases h.2 j _ v hx hv with hr | ⟨S, hr⟩
    · cases hr with | sc _ hr => exact ⟨_, rfl, rfl, hr⟩
    · obtain ⟨h1, h2⟩ := RO_sc hr; exact ⟨u, rfl, h1, h2⟩
  unfold Src
  split
  · refine ⟨h.1, fun _ _ => False, fun j x v hx hv => ?_, fun _ _ _ _ _ _ h => h.elim, fun _ _ _ h => h.elim⟩
    obtain ⟨u, rfl, rfl, hu⟩ := hsc j x v hx hv
    exact .sc _ _ hu fun _ h => h
  · refine ⟨h.1, fun j x v hx hv => ?_⟩
    obtain ⟨u, rfl, rfl, hu⟩ := hsc j x v hx hv
    exact .sc _ hu

/-- What an append takes: how many elements; their cells; the objects that move; are they its own? 'fl': the elements lead nowhere. -/
def srcM (fl : Bool) (σ : Sto) : TV → Option (Nat × List IV × List Nat × Bool)
  | .c .nl => some (0, [], [], true)
  | .c (.ik _ m ys) => some (m, ys, [], fl)
  | .c (.im (.sl m ys)) => some (m, ys, [], fl)
  | .c (.os k m) => match get σ k with
    | some o => if o.len? = some m then some (m, o.cells, if fl then [] else if o.own then [k] else [], fl || o.own) else none
    | none => none
  | .c (.ov k n off m) => match get σ k with
    | some (.vec t e n' cs own) => if n' = n ∧ (fl || !own) = true then some (m, (cs.drop off).take (m * e), [], fl) else none
    | _ => none
  | _ => none
theorem RI_src {m : Nat} {ys : List IV} {v : Value} (hx : RI w ω (.sl m ys) v) : ∃ ad c vs, v = .slice ad m c ∧ All2 (RI w ω) ys vs ∧ (ad = none → m = 0 ∧ c = 0) ∧ ∀ b, ad = some b → ∀ j u, vs[j]? = some u → w.cell? (b.add j) = some u := by
  cases hx with
  | slnil => exact ⟨none, 0, [], rfl, ⟨rfl, by simp⟩, by simp, by simp⟩
  | sl _ c _ ad vs _ _ _ hc hr =>
    refine ⟨some ad, c, (List.range ys.length).map vs, rfl, ⟨by simp, fun j x y hxj hy => ?_⟩, by simp, fun b hb j u hu => ?_⟩
    · have hj := (List.getElem?_eq_some_iff.1 hxj).1
      have : y = vs j := by simpa [hj] using hy.symm
      subst this
      exact hr j x hxj
    · obtain rfl := Option.some.inj hb
      rw [List.getElem?_map] at hu
      obtain ⟨i, hi, rfl⟩ := Option.map_eq_some_iff.1 hu
      obtain ⟨h1, h2⟩ := List.getElem?_eq_some_iff.1 hi
      simp at h1 h2
      subst h2
      exact hc j h1
theorem srcM_ok (hS : RS w ω κ σ) {fl : Bool} {x : TV} {v : Value} {m : Nat} {ys : List IV} {ks : List Nat} {own : Bool} (h : srcM fl σ x = some (m, ys, ks, own)) (hx : RT w ω κ σ x v) (hf : fl = true → allSc ys = true) :
    ∃ ad c vs, v = .slice ad m c ∧ (∀ own', (own' = own ∨ fl = true ∨ ys = []) → Src w ω ks own' ys vs) ∧ (ad = none → m = 0 ∧ c = 0) ∧ (∀ b, ad = some b → ∀ j u, vs[j]? = some u → w.cell? (b.add j) = some u) := by
  have him : ∀ {v : Value}, RI w ω (.sl m ys) v → ∃ ad c vs, v = .slice ad m c ∧ (∀ own', (own' = fl ∨ fl = true ∨ ys = []) → Src w ω [] own' ys vs) ∧ (ad = none → m = 0 ∧ c = 0) ∧ (∀ b, ad = some b → ∀ j u, vs[j]? = some u → w.cell? (b.add j) = some u) := by
    intro v hx
    obtain ⟨ad, c, vs, h1, h2, h3, h4⟩ := RI_src hx
    refine ⟨ad, c, vs, h1, fun own' ho => ?_, h3, h4⟩
    by_cases hfl : fl = true ∨ ys = []
    · refine src_flat (h2.imp fun _ _ _ h => .inl h) ?_ own'
      rcases hfl with hfl | hfl
      · exact hf hfl
      · rw [hfl]; rfl
    · rcases ho with rfl | ho
      · have : own' = false := by cases own' <;> simp_all
        subst this
        exact h2
      · exact absurd ho hfl
  unfold srcM at h
  split at h
  · injection h with h; injection h with q1 h; injection h with q2 h; injection h with q3 q4
    subst q1; subst q2; subst q3; subst q4
    cases hx
    exact ⟨none, 0, [], rfl, fun own' _ => src_flat ⟨rfl, by simp⟩ rfl own', by simp, by simp⟩
  · injection h with h; injection h with q1 h; injection h with q2 h; injection h with q3 q4
    subst q1; subst q2; subst q3; subst q4
    cases hx with | ik _ _ _ _ hx => exact him hx
  · injection h with h; injection h with q1 h; injection h with q2 h; injection h with q3 q4
    subst q1; subst q2; subst q3; subst q4
    cases hx with | im _ _ hx => exact him hx
  · rename_i k m'
    split at h
    · rename_i o hk
      split at h
      · rename_i hm
        injection h with h; injection h with q1 h; injection h with q2 h; injection h with q3 q4
        subst q1; subst q2; subst q3; subst q4
        cases hx with
        | os _ _ ad c hmc _ hh =>
          have hkk := (hh o _ hk hm).2 rfl
          have hob := hS.ob k o hk
          cases o with
          | box => cases hm
          | map => cases hm
          | gl => cases hm
          | vec t e n cs own =>
            obtain rfl := Option.some.inj hm
            obtain ⟨h0, xs, h1, h2, h3⟩ := hob
            have hcl := h3.len
            refine ⟨ad, c, xs, rfl, fun own' ho => ?_, fun hn => ?_, fun b hb j u hu => ?_⟩
            · by_cases hfl : fl = true ∨ cs = []
              · have hsc : allSc cs = true := by
                  rcases hfl with hfl | hfl
                  · exact hf hfl
                  · rw [hfl]; rfl
                have := src_flat (ω := ω) (vs := xs) (by
                  refine ⟨hcl, fun j x v hxj hv => ?_⟩
                  cases own with
                  | true => obtain ⟨_, Ss, g1, _⟩ := (show OwnC w ω k _ cs xs from h3); exact .inr ⟨_, g1 j x v hxj hv⟩
                  | false => exact .inl ((show All2 (RI w ω) cs xs from h3).2 j x v hxj hv)) hsc own'
                unfold Src at this ⊢
                split
                · rename_i ho'; rw [if_pos ho'] at this
                  obtain ⟨g1, T, g2, g3, g4⟩ := this
                  exact ⟨g1, T, g2, g3, fun j b hj hb => by obtain ⟨i, hi, _⟩ := g4 j b hj hb; cases hi⟩
                · rename_i ho'; rw [if_neg ho'] at this; exact this
              · have hfl' : fl = false := by cases fl <;> simp_all
                subst hfl'
                simp only [Ob.cells] at ho hfl
                have ho : own' = own := by
                  rcases ho with ho | ho | ho
                  · simpa [Ob.own] using ho
                  · cases ho
                  · exact absurd (.inr ho) hfl
                subst ho
                simp only [Bool.false_eq_true, if_false, Ob.own, Ob.cells]
                cases own' with
                | false => exact h3
                | true =>
                  obtain ⟨g0, Ss, g1, g2, g3⟩ := (show OwnC w ω k _ cs xs from h3)
                  exact ⟨g0, Ss, g1, g2, fun j b hj hb => ⟨k, by simp, (g3 j b hj hb).1⟩⟩
            · subst hn
              rw [hkk] at h1
              rcases h1.2 with ⟨hn0, a', hv⟩ | ⟨g, cap, cur, hv, _⟩
              · injection hv with _ _ q; exact ⟨hn0, q⟩
              · cases hv
            · subst hb
              exact h1.cells b n c hkk j u hu
          | row n cs =>
            obtain rfl := Option.some.inj hm
            obtain ⟨S, hR, hlab⟩ := hob
            rw [hkk] at hR
            simp only [Ob.own, Ob.cells, Bool.or_true] at *
            cases hR with
            | z => 
              refine ⟨ad, 0, [], rfl, fun own' _ => ?_, fun _ => ⟨rfl, rfl⟩, by simp⟩
              have := src_flat (w := w) (ω := ω) (ys := []) (vs := []) ⟨rfl, by simp⟩ rfl own'
              unfold Src at this ⊢
              split
              · rename_i ho'; rw [if_pos ho'] at this
                obtain ⟨g1, T, g2, g3, g4⟩ := this
                exact ⟨g1, T, g2, g3, fun j b hj hb => by simp at hj⟩
              · rename_i ho'; rw [if_neg ho'] at this; exact this
            | sl _ _ g t arr _ Ss _ hg hc hnc hcm hsz g1 g2 g3 g4 =>
              have hget : ∀ j x v, cs[j]? = some x → (arr.toList.take cs.length)[j]? = some v → RO w x v (Ss j) := fun j x v hxj hv => by
                have hj := (List.getElem?_eq_some_iff.1 hxj).1
                have := g1 j x hxj
                rw [List.getElem?_take_of_lt hj] at hv
                have hv' : arr.getD j undef = v := by
                  simp only [Array.getElem?_toList] at hv
                  simp [Array.getD_eq_getD_getElem?, hv]
                rw [hv'] at this; exact this
              refine ⟨some ⟨g, 0, none⟩, c, arr.toList.take cs.length, rfl, fun own' ho => ?_, by simp, fun b hb j u hu => ?_⟩
              · by_cases hfl : fl = true ∨ cs = []
                · have hsc : allSc cs = true := by
                    rcases hfl with hfl | hfl
                    · exact hf hfl
                    · rw [hfl]; rfl
                  have := src_flat (w := w) (ω := ω) (ys := cs) (vs := arr.toList.take cs.length) ⟨by simp; omega, fun j x v hxj hv => .inr ⟨_, hget j x v hxj hv⟩⟩ hsc own'
                  unfold Src at this ⊢
                  split
                  · rename_i ho'; rw [if_pos ho'] at this
                    obtain ⟨q1, T, q2, q3, q4⟩ := this
                    exact ⟨q1, T, q2, q3, fun j b hj hb => by obtain ⟨i, hi, _⟩ := q4 j b hj hb; cases hi⟩
                  · rename_i ho'; rw [if_neg ho'] at this; exact this
                · have hfl' : fl = false := by cases fl <;> simp_all
                  subst hfl'
                  have ho : own' = true := by
                    rcases ho with ho | ho | ho
                    · exact ho
                    · cases ho
                    · exact absurd (.inr ho) hfl
                  subst ho
                  simp only [Bool.false_eq_true, if_false, if_true]
                  exact ⟨by simp; omega, Ss, hget, g3, fun j b hj hb => ⟨k, by simp, hlab b ((g4 b).2 (.inr ⟨j, hj, hb⟩))⟩⟩
              · obtain rfl := Option.some.inj hb
                rw [addr_add_lit, cell_row hg]
                have hj : j < cs.length := by have := (List.getElem?_eq_some_iff.1 hu).1; simp at this; omega
                rw [List.getElem?_take_of_lt hj] at hu
                simpa using hu
      · cases h
    · cases h
  · rename_i k n off m'
    split at h
    · rename_i t e n' cs own hk
      split at h
      · rename_i hc
        injection h with h; injection h with q1 h; injection h with q2 h; injection h with q3 q4
        subst q1; subst q2; subst q3; subst q4
        obtain ⟨rfl, hfo⟩ := hc
        cases hx with
        | ov _ _ _ _ ad c hmc _ hh =>
          have hov := (hh _ _ hk rfl).2 rfl
          obtain ⟨h0, xs, h1, h2, h3⟩ := hS.ob k _ hk
          have hcl := h3.len
          have hlx : ((cs.drop off).take (m' * e)).length = ((xs.drop off).take (m' * e)).length := by simp [hcl]
          have hgx : ∀ j v, ((xs.drop off).take (m' * e))[j]? = some v → j < m' * e ∧ xs[off + j]? = some v := fun j v hv => by
            have hj : j < m' * e := by have := (List.getElem?_eq_some_iff.1 hv).1; simp at this; omega
            rw [List.getElem?_take_of_lt hj, List.getElem?_drop] at hv
            exact ⟨hj, hv⟩
          have hgc : ∀ j x, ((cs.drop off).take (m' * e))[j]? = some x → cs[off + j]? = some x := fun j v hv => by
            have hj : j < m' * e := by have := (List.getElem?_eq_some_iff.1 hv).1; simp at this; omega
            rw [List.getElem?_take_of_lt hj, List.getElem?_drop] at hv
            exact hv
          refine ⟨ad, c, (xs.drop off).take (m' * e), rfl, fun own' ho => ?_, fun hn => ?_, fun b hb j u hu => ?_⟩
          · have hall : All2 (fun x v => RI w ω x v ∨ ∃ S, RO w x v S) ((cs.drop off).take (m' * e)) ((xs.drop off).take (m' * e)) := ⟨hlx, fun j x v hxj hv => by
              cases own with
              | true => obtain ⟨_, Ss, g1, _⟩ := (show OwnC w ω k _ cs xs from h3); exact .inr ⟨_, g1 _ x v (hgc j x hxj) (hgx j v hv).2⟩
              | false => exact .inl ((show All2 (RI w ω) cs xs from h3).2 _ x v (hgc j x hxj) (hgx j v hv).2)⟩
            by_cases hfl : fl = true ∨ (cs.drop off).take (m' * e) = []
            · refine src_flat hall ?_ own'
              rcases hfl with hfl | hfl
              · exact hf hfl
              · rw [hfl]; rfl
            · have hfl' : fl = false := by cases fl <;> simp_all
              subst hfl'
              have ho : own' = false := by
                rcases ho with ho | ho | ho
                · exact ho
                · cases ho
                · exact absurd (.inr ho) hfl
              subst ho
              have hown : own = false := by simpa using hfo
              subst hown
              exact ⟨hlx, fun j x v hxj hv => (show All2 (RI w ω) cs xs from h3).2 _ x v (hgc j x hxj) (hgx j v hv).2⟩
          · subst hn
            obtain ⟨_, _, g3, _⟩ := hov
            rcases Nat.eq_zero_or_pos c with rfl | hc
            · exact ⟨by omega, rfl⟩
            · obtain ⟨_, _, _, _, q⟩ := g3 hc; cases q
          · subst hb
            obtain ⟨hj, hv⟩ := hgx j u hu
            obtain ⟨_, _, g3, _⟩ := hov
            have hm0 : 0 < m' := by
              rcases Nat.eq_zero_or_pos m' with rfl | h
              · simp at hj
              · exact h
            obtain ⟨b', l', c', hk', hb'⟩ := g3 (by omega)
            obtain rfl := Option.some.inj hb'
            have := h1.cells _ _ _ hk' (off + j) u hv
            rw [addr_add_lit] at this
            rw [Addr.add_lit]; exact this
      · cases h
    · cases h
  · cases h

/-- The cells of a new row, that are its own from now on: their trees; the objects that move. -/
def ownC (σ : Sto) : List Cell → Option (List IV × List Nat)
  | [] => some ([], [])
  | .im (.sc v) :: r => (ownC σ r).map fun q => (.sc v :: q.1, q.2)
  | .nl :: r => (ownC σ r).map fun q => (.sl 0 [] :: q.1, q.2)
  | .os k n :: r => (ownC σ r).bind fun q => match get σ k with
    | some o => if o.len? = some n ∧ o.own = true ∧ k ∉ q.2 then some (.sl n o.cells :: q.1, k :: q.2) else none
    | none => none
  | _ => none
theorem ob_RO {k n : Nat} {o : Ob} (h : ObOk w ω κ σ k o) (hm : o.len? = some n) (ho : o.own = true) : ∃ S, RO w (.sl n o.cells) (κ k) S ∧ ∀ b, S b → ω b = .ob k := by
  cases o with
  | box => cases hm
  | map => cases hm
  | gl => cases hm
  | vec t e m cs own =>
    obtain rfl := Option.some.inj hm
    obtain rfl : own = true := ho
    exact vec_RO h
  | row m cs =>
    obtain rfl := Option.some.inj hm
    exact h
theorem ownC_ok (hS : RS w ω κ σ) : ∀ {cs : List Cell} {ys : List IV} {ks : List Nat} {vs : List Value}, ownC σ cs = some (ys, ks) → All2 (RC w ω κ σ) cs vs → Src w ω ks true ys vs
  | [], ys, ks, vs, h, hv => by
    injection h with h; injection h with q1 q2; subst q1; subst q2
    have : vs = [] := List.eq_nil_of_length_eq_zero hv.1.symm
    subst this
    exact ⟨rfl, fun _ _ => False, by simp, by simp, by simp⟩
  | c :: r, ys, ks, [], h, hv => by simp [All2] at hv
  | c :: r, ys, ks, v :: vs, h, hv => by
    have fin : ∀ {x : IV} {S : Nat → Prop} {q : List IV × List Nat} {ks' : List Nat}, RO w x v S → ownC σ r = some q → (∀ b, S b → ∃ i ∈ ks', i ∉ q.2 ∧ ω b = .ob i) → (∀ i ∈ q.2, i ∈ ks') → Src w ω ks' true (x :: q.1) (v :: vs) := by
      intro x S q ks' hR hq hSk hsub
      obtain ⟨g0, T, g1, g2, g3⟩ := ownC_ok hS (ys := q.1) (ks := q.2) hq hv.tail
      have hdis : ∀ b j, S b → j < q.1.length → ¬ T j b := fun b j hb hj hT => by
        obtain ⟨i, hi, hn, hib⟩ := hSk b hb
        obtain ⟨i', hi', hib'⟩ := g3 j b hj hT
        rw [hib] at hib'; injection hib' with e; exact hn (e ▸ hi')
      refine ⟨by simp [g0], fun j => match j with | 0 => S | j + 1 => T j, fun j x' v' hx hv' => ?_, fun i j b hi hj hij hb hb' => ?_, fun j b hj hb => ?_⟩
      · cases j with
        | zero => simp at hx hv'; subst hx; subst hv'; exact hR
        | succ j => exact g1 j x' v' (by simpa using hx) (by simpa using hv')
      · cases i with
        | zero => cases j with
          | zero => exact hij rfl
          | succ j => exact hdis b j hb (by simpa using hj) hb'
        | succ i => cases j with
          | zero => exact hdis b i hb' (by simpa using hi) hb
          | succ j => exact g2 i j b (by simpa using hi) (by simpa using hj) (by omega) hb hb'
      · cases j with
        | zero => obtain ⟨i, hi, _, hib⟩ := hSk b hb; exact ⟨i, hi, hib⟩
        | succ j => obtain ⟨i, hi, hib⟩ := g3 j b (by simpa using hj) hb; exact ⟨i, hsub i hi, hib⟩
    unfold ownC at h
    split at h
    · rename_i heq; cases heq
    · rename_i u r' heq
      obtain ⟨rfl, rfl⟩ := List.cons.inj heq
      obtain ⟨q, hq, h⟩ := Option.map_eq_some_iff.1 h
      injection h with q1 q2; subst q1; subst q2
      cases hv.head with
      | im _ _ hx => cases hx with | sc _ hs => exact fin (S := fun _ => False) (.sc _ _ hs fun _ h => h) hq (fun _ h => h.elim) fun _ h => h
    · rename_i r' heq
      obtain ⟨rfl, rfl⟩ := List.cons.inj heq
      obtain ⟨q, hq, h⟩ := Option.map_eq_some_iff.1 h
      injection h with q1 q2; subst q1; subst q2
      cases hv.head
      exact fin (S := fun _ => False) (.z none _ fun _ h => h) hq (fun _ h => h.elim) fun _ h => h
    · rename_i k n r' heq
      obtain ⟨rfl, rfl⟩ := List.cons.inj heq
      obtain ⟨q, hq, h⟩ := Option.bind_eq_some_iff.1 h
      split at h
      · rename_i o hk
        split at h
        · rename_i hc
          injection h with h; injection h with q1 q2; subst q1; subst q2
          obtain ⟨S, hR, hS'⟩ := ob_RO (hS.ob k o hk) hc.1 hc.2.1
          cases hv.head with
          | os _ _ ad c hnc _ hh =>
            rw [(hh o n hk hc.1).2 rfl] at hR
            exact fin hR hq (fun b hb => ⟨k, by simp, hc.2.2, hS' b hb⟩) fun i hi => by simp [hi]
        · cases h
      · cases h
    · cases h
theorem ownC_keys : ∀ {cs : List Cell} {ys : List IV} {ks : List Nat}, ownC σ cs = some (ys, ks) → ∀ k ∈ ks, (get σ k).isSome = true
  | [], ys, ks, h => by injection h with h; injection h with q1 q2; subst q2; simp
  | c :: r, ys, ks, h => by
    unfold ownC at h
    split at h
    · rename_i heq; cases heq
    · rename_i u r' heq
      obtain ⟨rfl, rfl⟩ := List.cons.inj heq
      obtain ⟨q, hq, h⟩ := Option.map_eq_some_iff.1 h
      injection h with q1 q2; subst q2
      exact ownC_keys (ys := q.1) (ks := q.2) hq
    · rename_i r' heq
      obtain ⟨rfl, rfl⟩ := List.cons.inj heq
      obtain ⟨q, hq, h⟩ := Option.map_eq_some_iff.1 h
      injection h with q1 q2; subst q2
      exact ownC_keys (ys := q.1) (ks := q.2) hq
    · rename_i k n r' heq
      obtain ⟨rfl, rfl⟩ := List.cons.inj heq
      obtain ⟨q, hq, h⟩ := Option.bind_eq_some_iff.1 h
      split at h
      · rename_i o hk
        split at h
        · injection h with h; injection h with q1 q2; subst q2
          intro j hj
          rcases List.mem_cons.1 hj with rfl | hj
          · rw [hk]; rfl
          · exact ownC_keys (ys := q.1) (ks := q.2) hq j hj
        · cases h
      · cases h
    · cases h
end
end Go.VC
/- Operations in a frame; the machine agrees. -/
set_option linter.unusedSimpArgs false
set_option linter.unusedVariables false
namespace Go.VC
open Go Go.RowKit
section
variable {β : Base} {w w' : World} {ω ω' : Lab} {κ κ' : Nat → Value} {σ σ' : Sto} {E : Env} {a : Act} {s : St} {P : Program}

/-- A function that is entered when it is called. -/
def fnOk (P : Program) (g : FuncId) : Bool := match P.funcs[g]? with | some fn => fn.name != "runtime.NumGoroutine" && fn.body.isSome | none => false
theorem run_callFunc {g : FuncId} (h : fnOk P g = true) (args : Array Value) (w : World) : (callFunc g args).run P w = .ok (.enter g args) w := by
  unfold fnOk at h
  split at h
  · rename_i fn hf
    simp only [Bool.and_eq_true, bne_iff_ne, ne_eq] at h
    obtain ⟨c, hc⟩ := Option.isSome_iff_exists.1 h.2
    simp [callFunc, hf, h.1, hc]
  · cases h
/-- What a function's value calls, and with what behind the arguments. -/
def calleeOf : TV → Option (FuncId × List TV)
  | .c (.im (.fn g ivs)) => some (g, ivs.map fun x => .c (.im x))
  | .c (.fn g caps) => some (g, caps.map .c)
  | _ => none
theorem calleeOf_ok {x : TV} {g : FuncId} {caps : List TV} {v : Value} (h : calleeOf x = some (g, caps)) (hx : RT w ω κ σ x v) : ∃ vs : List Value, v = .func (.func g) #[] vs.toArray ∧ All2 (RT w ω κ σ) caps vs := by
  unfold calleeOf at h
  split at h
  · obtain ⟨rfl, rfl⟩ := Prod.mk.inj (Option.some.inj h)
    cases hx with
    | im _ _ hx =>
      cases hx with
      | fn _ ivs vs hl hc =>
        refine ⟨vs, rfl, by simp [hl], fun j x y hxj hy => ?_⟩
        rw [List.getElem?_map] at hxj
        obtain ⟨z, hz, rfl⟩ := Option.map_eq_some_iff.1 hxj
        have := hc j z hz
        have e : vs.getD j undef = y := by simp [List.getD, hy]
        rw [e] at this
        exact .im _ _ this
  · obtain ⟨rfl, rfl⟩ := Prod.mk.inj (Option.some.inj h)
    cases hx with
    | fn _ _ vs hl hc =>
      refine ⟨vs, rfl, by simp [hl], fun j x y hxj hy => ?_⟩
      rw [List.getElem?_map] at hxj
      obtain ⟨z, hz, rfl⟩ := Option.map_eq_some_iff.1 hxj
      have := hc j z hz
      have e : vs.getD j undef = y := by simp [List.getD, hy]
      rw [e] at this
      exact this
  · cases h

def St.put (s : St) (d : Nat) (r : TV) : St := ⟨s.N, (d, r) :: s.E, s.σ⟩
/-- A call, and what comes behind it. -/
def CallG (P : Program) (s : St) (g : FuncId) (xs : List TV) (d : Nat) (K : St → Prop) (_ : Tg K) : Prop :=
  ∀ β ω κ a w vs, Rel β ω κ s a w → All2 (RT w ω κ s.σ) xs vs → Calls P g vs.toArray w fun e w' => ∃ v, e = .returned v ∧ ∃ s', K s' ∧ RelE β s' (a.put (some d) v) w'

def bsCells (n sz : Nat) (zs : List Value) : List Cell := (List.range (n * sz)).map fun i => ofC (zs.getD (i % sz) undef)
def reps {α : Type} : Nat → List α → List α
  | 0, _ => []
  | n + 1, l => l ++ reps n l
/-- On, if there is a value. -/
def onS {α : Type} (o : Option α) (f : α → Prop) (_ : Tg f) : Prop := match o with | some v => f v | none => False
theorem onS_some {α : Type} (v : α) (f : α → Prop) (t : Tg f) : onS (some v) f t = f v := rfl
/-- On, if it is wanted; past it, if not. -/
def gdP (g : Option Bool) (X Y : Prop) (_ : Tg X) (_ : Tg Y) : Prop := match g with | some true => X | some false => Y | none => False
theorem gdP_t (X Y : Prop) (t : Tg X) (t' : Tg Y) : gdP (some true) X Y t t' = X := rfl
theorem gdP_f (X Y : Prop) (t : Tg X) (t' : Tg Y) : gdP (some false) X Y t t' = Y := rfl
/-- Do the elements lead nowhere? -/
def flatZ (zs : List Value) : Bool := zs.all fun
  | .slice _ _ _ | .pointer _ | .map _ | .nilFunc | .nilIface | .func _ _ _ | .agg _ | .tuple _ => false
  | _ => true
/-- How long a slice is. -/
def lenC : Cell → Option Nat
  | .im (.sl n _) | .ik _ n _ | .os _ n | .ov _ _ _ n => some n
  | _ => none
/-- A slice against nil. -/
def nilK (x : Cell) (eq : Bool) (K : Bool → Prop) : Prop := match x with
  | .nl => K eq
  | x => match lenC x with
    | some n => ∀ b : Bool, (b = true → n = 0) → K (b == eq)
    | none => False
def slB (P : Program) (t : TypeId) : Bool := match P.underlying t with | some (.slice _) => true | _ => false
/-- The flag of a row to which is appended. -/
def mixO (fl o1 o2 : Bool) (m : Nat) : Option Bool := if fl || o1 == o2 then some o1 else if o1 then some false else none
/-- What an operation comes to. -/
def wpO (P : Program) (o : Oper) (s : St) (K : St → Prop) : Prop :=
  match o.op, o.dst with
  | .store t x v, none =>
    match opd s.E x, (opd s.E v).bind cellsT, szOf P t with
    | some (.c (.rf k off)), some news, some n => match get s.σ k with
      | some (.box t' cs) => n = news.length ∧ off + news.length ≤ cs.length ∧ nnE k s.E = true ∧ K ⟨s.N, s.E, upd s.σ k (.box t' (setL cs off news))⟩
      | _ => False
    | some (.c (.rv k len off)), some news, some n => match get s.σ k with
      | some (.vec t' e m cs true) => match ownC s.σ news with
        | some (ys, ks) => n = news.length ∧ m = len ∧ 0 < ys.length ∧ off + ys.length ≤ cs.length ∧ k ∉ ks ∧ nnE k s.E = true ∧ K ⟨s.N, s.E, upd (delL s.σ ks) k (.vec t' e m (setL cs off ys) true)⟩
        | none => False
      | some (.vec t' e m cs false) => match toIVs news with
        | some ys => n = news.length ∧ m = len ∧ 0 < ys.length ∧ off + ys.length ≤ cs.length ∧ nnE k s.E = true ∧ K ⟨s.N, s.E, upd s.σ k (.vec t' e m (setL cs off ys) false)⟩
        | none => False
      | some (.row m cs) => match ownC s.σ news with
        | some (ys, ks) => n = news.length ∧ m = len ∧ 0 < ys.length ∧ off + ys.length ≤ cs.length ∧ k ∉ ks ∧ nnE k s.E = true ∧ K ⟨s.N, s.E, upd (delL s.σ ks) k (.row m (setL cs off ys))⟩
        | none => False
      | _ => False
    | _, _, _ => False
  | .mapUpdate t m q v, none => match mpOf P t, opd s.E m, opd s.E q, opd s.E v with
    | some (dd, _), some (.c (.mp j)), some (.c (.im (.sc key))), some (.c (.im (.sc val))) => match get s.σ j with
      | some (.map d' f) => keyD dd key = true ∧ keyD d' key = true ∧ nnE j s.E = true ∧ K ⟨s.N, s.E, upd s.σ j (.map d' (mput f key val))⟩
      | _ => False
    | _, _, _, _ => False
  | .insert t m q v, none => match mpOf P t, opd s.E m, opd s.E q, opd s.E v with
    | some (dd, _), some (.c (.mp j)), some (.c (.im (.sc key))), some (.c (.im (.sc val))) => match get s.σ j with
      | some (.map d' f) => keyD dd key = true ∧ keyD d' key = true ∧ nnE j s.E = true ∧ K ⟨s.N, s.E, upd s.σ j (.map d' (mput f key val))⟩
      | _ => False
    | _, _, _, _ => False
  | .box t x, some d => match (opd s.E x).bind cellsT with
    | some cs => d < s.N ∧ noE (2 * d) s.E = true ∧ noS (2 * d) s.σ = true ∧ hasL (2 * d) cs = false ∧ K ⟨s.N, (d, .c (.rf (2 * d) 0)) :: s.E, (2 * d, .box t cs) :: s.σ⟩
    | none => False
  | .alloc t, some d => match zvOf P t with
    | some zs => d < s.N ∧ noE (2 * d) s.E = true ∧ noS (2 * d) s.σ = true ∧ K ⟨s.N, (d, .c (.rf (2 * d) 0)) :: s.E, (2 * d, .box t (zs.map ofC)) :: s.σ⟩
    | none => False
  | .buildSlice t n ps, some d => match apOf P t, (opds s.E ps.toList) with
    | some (e, sz, _, zs), some qs => match (fillC ((List.range n).map fun i => (i * sz, sz)) (bsCells n sz zs) qs) with
      | some cs => d < s.N ∧ n * sz ≤ 2 ^ 24 ∧ noE (2 * d) s.E = true ∧ noS (2 * d) s.σ = true ∧ match ownC s.σ cs with
        | some (ys, ks) => 2 * d ∉ ks ∧ K ⟨s.N, (d, .c (.os (2 * d) n)) :: s.E, (2 * d, .vec e sz n ys true) :: delL s.σ ks⟩
        | none => match toIVs cs with
          | some ys => K ⟨s.N, (d, .c (.os (2 * d) n)) :: s.E, (2 * d, .vec e sz n ys false) :: s.σ⟩
          | none => False
      | none => False
    | _, _ => False
  | .makeSlice t l c, some d => match apOf P t, opd s.E l, opd s.E c with
    | some (e, sz, by_, zs), some (.c (.im (.sc (.int _ n)))), some (.c (.im (.sc (.int _ n')))) => match ownC [] (zs.map ofC) with
      | some (ys, ks) => d < s.N ∧ 0 ≤ n ∧ n' = n ∧ by_ * n.toNat ≤ 140737488355328 ∧ n.toNat ≤ maxLen ∧ noE (2 * d) s.E = true ∧ noS (2 * d) s.σ = true ∧ K ⟨s.N, (d, .c (.os (2 * d) n.toNat)) :: s.E, (2 * d, .vec e sz n.toNat (reps n.toNat ys) true) :: s.σ⟩
      | none => False
    | _, _, _ => False
  | .makeMap t none, some d => match mpOf P t with
    | some (dd, _) => d < s.N ∧ noE (2 * d) s.E = true ∧ noS (2 * d) s.σ = true ∧ nnE (2 * d) s.E = true ∧ K ⟨s.N, (d, .c (.mp (2 * d))) :: s.E, (2 * d, .map dd mNo) :: s.σ⟩
    | none => False
  | .binOp op t x y u, some d => match op, opd s.E x, opd s.E y with
    | .eql, some (.c x), some (.c .nl) => slB P t = true ∧ d < s.N ∧ nilK x true fun b => K (s.put d (.c (.im (.sc (.bool b)))))
    | .neq, some (.c x), some (.c .nl) => slB P t = true ∧ d < s.N ∧ nilK x false fun b => K (s.put d (.c (.im (.sc (.bool b)))))
    | op, _, _ => onS (ev1 P s.E s.σ (.binOp op t x y u)) (fun r => d < s.N ∧ K (s.put d r)) .mk
  | .call c, some d => match c.callee, c.args.toList, c.argTypes.toList with
    | .builtin .append, [x, y], [t, t'] => match apOf P t, opd s.E x with
      | some (e, sz, by_, zs), some (.c (.os k n)) => match get s.σ k, (opd s.E y).bind (srcM (flatZ zs) s.σ) with
        | some (.vec e' sz' n' cs o1), some (m, ys, ks, o2) => t' = t ∧ e' = e ∧ sz' = sz ∧ n' = n ∧ d < s.N ∧ ys.length = m * sz ∧ (flatZ zs = true → allSc ys = true) ∧ n + m ≤ maxLen ∧ (n + m) * by_ ≤ 140737488355328 ∧ k ∉ ks ∧ nnE k s.E = true ∧
            match mixO (flatZ zs) o1 o2 m with
            | some o => K ⟨s.N, (d, .c (.os k (n + m))) :: s.E, upd (delL s.σ ks) k (.vec e sz (n + m) (cs ++ ys) o)⟩
            | none => False
        | _, _ => False
      | some (e, sz, by_, zs), some (.c (.ov k n 0 q)) => match get s.σ k, (opd s.E y).bind (srcM (flatZ zs) s.σ) with
        | some (.vec e' sz' n' cs o1), some (m, ys, ks, o2) => t' = t ∧ e' = e ∧ sz' = sz ∧ n' = n ∧ d < s.N ∧ ys.length = m * sz ∧ (flatZ zs = true → allSc ys = true) ∧ q + m ≤ maxLen ∧ (q + m) * by_ ≤ 140737488355328 ∧ k ∉ ks ∧ noE (2 * d) s.E = true ∧ noS (2 * d) s.σ = true ∧ k ≠ 2 * d ∧ 2 * d ∉ ks ∧ q ≤ n ∧ cs.length = n * sz ∧
            match mixO (flatZ zs) o1 o2 m with
            | some o => K ⟨s.N, (d, .c (.os (2 * d) (q + m))) :: s.E, (2 * d, .vec e sz (q + m) (cs.take (q * sz) ++ ys) o) :: delL (del s.σ k) ks⟩
            | none => match ks with
              | [j] => flatZ zs = false ∧ o1 = false ∧ opd (s.frz j).E x = some (.c (.ov k n 0 q)) ∧ opd (s.frz j).E y = some (.c (.im (.sl m ys))) ∧ get (s.frz j).σ k = some (.vec e sz n cs false) ∧ noE (2 * d) (s.frz j).E = true ∧ noS (2 * d) (s.frz j).σ = true ∧
                  K ⟨s.N, (d, .c (.os (2 * d) (q + m))) :: (s.frz j).E, (2 * d, .vec e sz (q + m) (cs.take (q * sz) ++ ys) false) :: del (s.frz j).σ k⟩
              | _ => False
        | _, _ => False
      | some (e, sz, by_, zs), some (.c .nl) => match (opd s.E y).bind (srcM (flatZ zs) s.σ) with
        | some (m, ys, ks, o2) => t' = t ∧ d < s.N ∧ noE (2 * d) s.E = true ∧ noS (2 * d) s.σ = true ∧ ys.length = m * sz ∧ (flatZ zs = true → allSc ys = true) ∧ m ≤ maxLen ∧ m * by_ ≤ 140737488355328 ∧ 2 * d ∉ ks ∧
            K ⟨s.N, (d, .c (.os (2 * d) m)) :: s.E, (2 * d, .vec e sz m ys o2) :: delL s.σ ks⟩
        | none => False
      | some (e, sz, by_, zs), some (.c (.ik 0 0 [])) => match (opd s.E y).bind (srcM (flatZ zs) s.σ) with
        | some (m, ys, ks, o2) => t' = t ∧ d < s.N ∧ noE (2 * d) s.E = true ∧ noS (2 * d) s.σ = true ∧ ys.length = m * sz ∧ (flatZ zs = true → allSc ys = true) ∧ m ≤ maxLen ∧ m * by_ ≤ 140737488355328 ∧ 2 * d ∉ ks ∧
            K ⟨s.N, (d, .c (.os (2 * d) m)) :: s.E, (2 * d, .vec e sz m ys o2) :: delL s.σ ks⟩
        | none => False
      | some (e, sz, by_, zs), some (.c (.ik c n cs)) => match (opd s.E y).bind (srcM (flatZ zs) s.σ) with
        | some (m, ys, ks, o2) => t' = t ∧ c < n + m ∧ cs.length = n * sz ∧ d < s.N ∧ noE (2 * d) s.E = true ∧ noS (2 * d) s.σ = true ∧ ys.length = m * sz ∧ (flatZ zs = true → allSc ys = true ∧ allSc cs = true) ∧ (flatZ zs = false → o2 = false ∨ ys = []) ∧ n + m ≤ maxLen ∧ (n + m) * by_ ≤ 140737488355328 ∧ ks = [] ∧
            K ⟨s.N, (d, .c (.os (2 * d) (n + m))) :: s.E, (2 * d, .vec e sz (n + m) (cs ++ ys) (flatZ zs)) :: s.σ⟩
        | none => False
      | _, _ => False
    | .builtin .len, [x], [t] => onS ((opd s.E x).bind fun p => evLen P t p) (fun r => d < s.N ∧ K (s.put d r)) .mk
    | .value f, args, _ => match (opd s.E f).bind calleeOf, opsT s.E args with
      | some (g, caps), some xs => fnOk P g = true ∧ CallG P s g (xs ++ caps) d K .mk
      | _, _ => False
    | _, _, _ => onS (ev1 P s.E s.σ (.call c)) (fun r => d < s.N ∧ K (s.put d r)) .mk
  | op, some d => onS (ev1 P s.E s.σ op) (fun r => d < s.N ∧ K (s.put d r)) .mk
  | _, _ => False
where
  zvOf (P : Program) (t : TypeId) : Option (List Value) := match P.info? t with
    | some i => match i.zero with
      | some z => if z.cells.all (·.oneCell') then some z.cells.toList else none
      | none => none
    | none => none
end
end Go.VC
/- Each operation does in the machine what it comes to in a frame. -/
set_option linter.unusedSimpArgs false
set_option linter.unusedVariables false
namespace Go.VC
open Go Go.RowKit
section
variable {β : Base} {w w' : World} {ω ω' : Lab} {κ κ' : Nat → Value} {σ σ' : Sto} {E : Env} {a : Act} {s : St} {P : Program}

theorem ofV_has (d : Nat) (v : Value) : (ofC v).has d = false ∧ (ofC v).anyN = false := by
  unfold ofC
  split
  · rename_i x h
    unfold ofV at h
    split at h
    · injection h with h; injection h with h; subst h; exact ⟨rfl, rfl⟩
    · split at h
      · injection h with h; injection h with h; subst h; exact ⟨rfl, rfl⟩
      · cases h
  · exact ⟨rfl, rfl⟩
theorem hasL_ofC (d : Nat) (l : List Value) : hasL d (l.map ofC) = false := by
  induction l with
  | nil => rfl
  | cons v r ih => simp [hasL, (ofV_has d v).1, ih]
theorem anyNL_ofC (l : List Value) : anyNL (l.map ofC) = false := by
  induction l with
  | nil => rfl
  | cons v r ih => simp [anyNL, (ofV_has 0 v).2, ih]
theorem All2_ofC (l : List Value) : All2 (RC w ω κ σ) (l.map ofC) l := ⟨by simp, fun j x y hx hy => by
  rw [List.getElem?_map, hy] at hx
  obtain rfl := Option.some.inj hx
  exact ofC_ok y⟩
theorem reps_get {α : Type} (l : List α) : ∀ (n j : Nat), j < n * l.length → (reps n l)[j]? = l[j % l.length]?
  | 0, j, h => by simp at h
  | n + 1, j, h => by
    rw [reps]
    by_cases hj : j < l.length
    · rw [List.getElem?_append_left hj, Nat.mod_eq_of_lt hj]
    · rw [List.getElem?_append_right (by omega), reps_get l n (j - l.length) (by rw [Nat.add_mul] at h; omega), ← Nat.mod_eq_sub_mod (by omega)]
theorem reps_len {α : Type} (l : List α) : ∀ n, (reps n l).length = n * l.length
  | 0 => by simp [reps]
  | n + 1 => by rw [reps, List.length_append, reps_len l n, Nat.add_mul]; omega
theorem made_ok {z : Value} {sz n : Nat} {ys : List IV} {ks : List Nat} (hsz : z.cells.size = sz) (hys : ownC [] (z.cells.toList.map ofC) = some (ys, ks)) : Src w ω [] true (reps n ys) (madeCells z.cells (n * sz)).toList := by
  have hnil : RS w (fun _ => Lb.no) (fun _ => undef) [] := ⟨fun k o h => (by rw [get_nil] at h; cases h), fun b h => absurd rfl h⟩
  obtain ⟨h1, T, h2, h3, h4⟩ := (show Src w (fun _ => Lb.no) ks true ys z.cells.toList from ownC_ok hnil hys (All2_ofC _))
  have hks : ∀ k ∈ ks, False := fun k hk => by have := ownC_keys hys k hk; cases this
  have hT : ∀ j b, j < ys.length → ¬ T j b := fun j b hj hb => by obtain ⟨i, hi, _⟩ := h4 j b hj hb; exact hks i hi
  have hl : ys.length = sz := by rw [h1]; simpa using hsz
  refine ⟨by rw [reps_len]; simp [size_madeCells, hl], fun _ _ => False, fun j x y hx hy => ?_, fun _ _ _ _ _ _ h => h.elim, fun _ _ _ h => h.elim⟩
  have hj : j < n * ys.length := by rw [← reps_len]; exact (List.getElem?_eq_some_iff.1 hx).1
  rw [reps_get ys n j hj, hl] at hx
  have hj' : j < n * sz := by rw [← hl]; exact hj
  have hm : j % sz < sz := Nat.mod_lt _ (by rcases Nat.eq_zero_or_pos sz with h | h; (· rw [h] at hj'; omega); exact h)
  have : y = z.cells[j % sz]'(by rw [hsz]; exact hm) := by
    simp [madeCells, hj', hsz] at hy
    rw [← hy]
    simp [hsz, hm]
  exact (h2 _ x y hx (by rw [this]; simp [hsz, hm])).congr fun b => ⟨fun hb => hT _ b (by omega) hb, fun h => h.elim⟩

theorem wp_value {o : Oper} {next : Act → World → Prop} {Q : Exit → Act → World → Prop} {v : Value} (h : (execOp a.eval o).run P w = .ok (.value v) w') (hn : next (a.put o.dst v) w') : o.wp P a w next Q := by
  unfold Oper.wp; rw [h]; exact hn
theorem wp_skip1 {o : Oper} {next : Act → World → Prop} {Q : Exit → Act → World → Prop} (h : (execOp a.eval o).run P w = .ok .skip w') (hn : next (a.put o.dst undef) w') : o.wp P a w next Q := by
  unfold Oper.wp; rw [h]; exact hn
theorem wp_enter {o : Oper} {next : Act → World → Prop} {Q : Exit → Act → World → Prop} {g : FuncId} {args : Array Value} (h : (execOp a.eval o).run P w = .ok (.enter g args) w)
    (hc : Calls P g args w fun e w' => ∃ v, e = .returned v ∧ next (a.put o.dst v) w') : o.wp P a w next Q := by
  unfold Oper.wp; rw [h]
  exact hc.mono fun e w' ⟨v, he, hn⟩ => by subst he; exact hn
theorem fillC_len {pl : List (Nat × Nat)} : ∀ {q : List (Nat × TV)} {c c' : List Cell}, fillC pl c q = some c' → c'.length = c.length := by
  intro q
  induction q with
  | nil => intro c c' hh; obtain rfl := Option.some.inj hh; rfl
  | cons p r ih =>
    intro c c' hh
    obtain ⟨pi, px⟩ := p
    simp only [fillC] at hh
    split at hh
    · split at hh
      · rw [ih hh, setL_len]
      · cases hh
    · cases hh
theorem nilK_ok {x : Cell} {eq : Bool} {K : Bool → Prop} (h : nilK x eq K) {v : Value} (hx : RC w ω κ σ x v) : ∃ a n c, v = .slice a n c ∧ K (a.isNone == eq) := by
  unfold nilK at h
  split at h
  · cases hx; exact ⟨none, 0, 0, rfl, by simpa using h⟩
  · split at h
    · rename_i n hn
      have hnone : ∀ (m c : Nat), m = n → m ≤ c → (Option.isNone (none : Option Addr) = true → c = 0) → True := fun _ _ _ _ _ => trivial
      have him : ∀ cs v, RI w ω (.sl n cs) v → ∃ a n c, v = .slice a n c ∧ K (a.isNone == eq) := fun cs v hr => by
        cases hr with
        | slnil => exact ⟨none, 0, 0, rfl, h true fun _ => rfl⟩
        | sl _ c _ a => exact ⟨some a, n, c, rfl, h false fun e => by cases e⟩
      cases x with
      | im y =>
        cases y with
        | sl m cs => obtain rfl := Option.some.inj hn; cases hx with | im _ _ hx => exact him cs v hx
        | _ => cases hn
      | ik c m cs => obtain rfl := Option.some.inj hn; cases hx with | ik _ _ _ _ hx => exact him cs _ hx
      | os k m =>
        obtain rfl := Option.some.inj hn
        cases hx with
        | os _ _ a c hmc hz hh =>
          cases a with
          | some a => exact ⟨some a, _, c, rfl, h false fun e => by cases e⟩
          | none => exact ⟨none, _, c, rfl, h true fun _ => by have := hz rfl; omega⟩
      | ov k m off q =>
        obtain rfl := Option.some.inj hn
        cases hx with
        | ov _ _ _ _ a c hmc hz hh =>
          cases a with
          | some a => exact ⟨some a, _, c, rfl, h false fun e => by cases e⟩
          | none => exact ⟨none, _, c, rfl, h true fun _ => by have := hz rfl; omega⟩
      | _ => cases hn
    · exact h.elim
end
end Go.VC
/- Each operation does in the machine what it comes to in a frame: all of them. -/
set_option linter.unusedSimpArgs false
set_option linter.unusedVariables false
namespace Go.VC
open Go Go.RowKit
section
variable {β : Base} {w w' : World} {ω ω' : Lab} {κ κ' : Nat → Value} {σ σ' : Sto} {E : Env} {a : Act} {s : St} {P : Program}

theorem noE_nn {k : Nat} (hE : noE k E = true) : nnE k E = true := by
  induction E with
  | nil => rfl
  | cons p r ih =>
    obtain ⟨u, x⟩ := p
    simp only [noE, Bool.and_eq_true, Bool.not_eq_true'] at hE
    simp only [nnE, Bool.and_eq_true, Bool.not_eq_true']
    refine ⟨?_, ih hE.2⟩
    cases hx : x.hasN k with
    | false => rfl
    | true => rw [hasNT_has k x hx] at hE; exact hE.1
theorem Rel.even (h : Rel β ω κ s a w) (d : Nat) : (get β.σ (2 * d)).isSome = false := by
  cases hh : (get β.σ (2 * d)).isSome with
  | false => rfl
  | true => have := h.odd _ hh; omega
/-- A slice of a row's cells: its value reads so. -/
theorem os_new {k n : Nat} {v : Value} {o : Ob} (hs : ∃ a c, v = .slice a n c ∧ n ≤ c ∧ (a = none → c = 0)) (hg : get σ k = some o) (hm : o.len? = some n) (hk : κ k = v) : RC w ω κ σ (.os k n) v := by
  obtain ⟨a, c, rfl, h1, h2⟩ := hs
  refine .os k n a c h1 h2 fun o' m' ho hm' => ?_
  rw [hg] at ho
  obtain rfl := Option.some.inj ho
  rw [hm] at hm'
  obtain rfl := Option.some.inj hm'
  exact ⟨Nat.le_refl _, fun _ => hk⟩
theorem RowOk.sl {t : TypeId} {e n : Nat} {v : Value} {xs : List Value} (h : RowOk w t e v n xs) : ∃ a c, v = .slice a n c ∧ n ≤ c ∧ (a = none → c = 0) := by
  obtain ⟨a, c, h1, h2, _, h3⟩ := h.slice
  exact ⟨a, c, h1, h2, h3⟩
/-- A new row, in a variable. -/
theorem Rel.newRowE (h : Rel β ω κ s a w) {d n e : Nat} {t : TypeId} {ys : List IV} {own : Bool} {ks : List Nat} {v : Value} {vs : List Value} (hd : d < s.N) (he : 0 < e) (hg : w.grownBy w' none) (hv : RowOk w' t e v n vs) (hvb : ∀ b, rowB v = some b → w.heap.size ≤ b)
    (hy : Src w ω ks own ys vs) (hkk : 2 * d ∉ ks) (hE : noE (2 * d) s.E = true) (hS : noS (2 * d) s.σ = true) :
    RelE β ⟨s.N, (d, .c (.os (2 * d) n)) :: s.E, (2 * d, .vec t e n ys own) :: delL s.σ ks⟩ (a.put (some d) v) w' := by
  have h1 := h.newRow (k := 2 * d) (xs := []) he hg hv hvb hy hkk (h.even d) hE hS
  exact ⟨_, _, h1.put hd (os_new hv.sl (by rw [get_cons, if_pos rfl]) rfl (setK_eq _ _ _))⟩
/-- An append to a row, in a variable. -/
theorem Rel.appendE (h : Rel β ω κ s a w) {d k n m : Nat} {t ty e : TypeId} {sz by_ : Nat} {zs : List Value} {cs ys : List IV} {own : Bool} {ks : List Nat} (hd : d < s.N) (ht : apOf P t = some (e, sz, by_, zs)) (hk : get s.σ k = some (.vec e sz n cs own))
    {ad : Option Addr} {c : Nat} {vs : List Value} (hy : Src w ω ks own ys vs) (hkk : k ∉ ks) (hnil : ad = none → m = 0 ∧ c = 0) (hl : ys.length = m * sz)
    (hcell : ∀ b, ad = some b → ∀ j u, vs[j]? = some u → w.cell? (b.add j) = some u) (h63 : n + m ≤ maxLen) (hbytes : (n + m) * by_ ≤ 140737488355328) (hnn : nnE k s.E = true) :
    ∃ v' w', (Builtin.append_ #[t, t] ty #[κ k, .slice ad m c]).run P w = .ok v' w' ∧ RelE β ⟨s.N, (d, .c (.os k (n + m))) :: s.E, upd (delL s.σ ks) k (.vec e sz (n + m) (cs ++ ys) own)⟩ (a.put (some d) v') w' := by
  obtain ⟨v', w', h1, h2, h3⟩ := h.append (ty := ty) ht hk hy hkk hnil hl hcell h63 hbytes hnn
  have hsome : (get (delL s.σ ks) k).isSome = true := by rw [get_delL, if_neg hkk, hk]; rfl
  exact ⟨v', w', h1, _, _, h2.put hd (os_new h3 (by rw [get_upd _ _ _ _ hsome, if_pos rfl]) rfl (setK_eq _ _ _))⟩
/-- The state in which a row's trees are all's; its labels. -/
theorem Rel.shareK (h : Rel β ω κ s a w) {k : Nat} {t : TypeId} {e n : Nat} {cs : List IV} (hk : get s.σ k = some (.vec t e n cs true)) (hn : nnE k s.E = true) :
    ∃ ω', Rel β ω' κ ⟨s.N, s.E, upd s.σ k (.vec t e n cs false)⟩ a w ∧ (∀ b, ω b = .im → ω' b = .im) := by
  have hsome : (get s.σ k).isSome = true := by rw [hk]; rfl
  obtain ⟨ω', h'⟩ := h.share k hn
  have e1 : s.share k = ⟨s.N, s.E, upd s.σ k (.vec t e n cs false)⟩ := by unfold St.share; rw [hk]
  rw [e1] at h'
  obtain ⟨h0, xs, h1, h2, h3⟩ := h.rs.ob k _ hk
  obtain ⟨h4, Ss, h5, h6, h7⟩ : OwnC w ω k (rowB (κ k)) cs xs := h3
  refine ⟨fun b => if ω b = .ob k ∧ some b ≠ rowB (κ k) then .im else ω b, h.change k ⟨rfl, rfl, rfl, Nat.le_refl _, fun _ _ _ => rfl, fun b hb => by simp [hb], fun b _ hb => by simp [hb]⟩ (fun b hb => ?_) (fun _ _ => rfl) (fun j hj => .inr ⟨by rw [get_upd _ _ _ _ hsome, if_neg hj], fun b hb => ⟨by rw [if_neg (by rw [hb]; simp; intro e; exact absurd e hj), hb], rfl⟩⟩) (fun o ho => ?_) (.inl ⟨fun _ => rfl, fun o' m' ho hm => ?_⟩) hn, fun b hb => by simp [hb]⟩
  · split at hb
    · rename_i hc; exact h.rs.dom b (by rw [hc.1]; simp)
    · exact h.rs.dom b hb
  · rw [get_upd _ _ _ _ hsome, if_pos rfl] at ho
    obtain rfl := Option.some.inj ho
    refine ⟨h0, xs, h1, fun b hb => by show (if ω b = .ob k ∧ some b ≠ rowB (κ k) then Lb.im else ω b) = _; rw [if_neg (by rw [hb]; simp)]; exact h2 b hb, ?_⟩
    refine ⟨h4, fun j x v hx hv => (h5 j x v hx hv).im fun b hb => ?_⟩
    have := h7 j b (List.getElem?_eq_some_iff.1 hx).1 hb
    show (if ω b = .ob k ∧ some b ≠ rowB (κ k) then Lb.im else ω b) = _
    rw [if_pos this]
  · rw [get_upd _ _ _ _ hsome, if_pos rfl] at ho
    obtain rfl := Option.some.inj ho
    exact ⟨_, m', hk, hm, Nat.le_refl _, fun _ => rfl⟩
theorem upd_upd {α : Type} (σ : List (Nat × α)) (k : Nat) (o o' : α) : upd (upd σ k o) k o' = upd σ k o' := by
  induction σ with
  | nil => rfl
  | cons p r ih =>
    obtain ⟨j, q⟩ := p
    simp only [upd]
    by_cases h : k = j
    · simp [h, upd]
    · simp [h, upd, ih]

/-- The front of a row under a new name. -/
theorem Rel.trunc (h : Rel β ω κ s a w) {d k n q e : Nat} {t : TypeId} {cs : List IV} {own : Bool} {c : Nat} {ad : Option Addr} (hk : get s.σ k = some (.vec t e n cs own)) (hkd : k ≠ 2 * d) (hE : noE (2 * d) s.E = true) (hS : noS (2 * d) s.σ = true) (hqn : q ≤ n) (hcl : cs.length = n * e)
    (hv : ∃ l, κ k = .slice ad l c) (hqc : q ≤ c) :
    ∃ ω' κ', Rel β ω' κ' ⟨s.N, s.E, (2 * d, .vec t e q (cs.take (q * e)) own) :: del s.σ k⟩ a w ∧ κ' (2 * d) = .slice ad q c ∧ (∀ b, ω b = .im → ω' b = .im) ∧ ∀ b j, ω b = .ob j → j ≠ k → ω' b = .ob j := by
  obtain ⟨h0, xs, h1, h2, h3⟩ := h.rs.ob k _ hk
  obtain ⟨l, hv⟩ := hv
  have hcx := h3.len
  have hlab : ∀ b, ω b = .ob k → relab ω [k] (2 * d) b = .ob (2 * d) := fun b hb => relab_in hb (by simp)
  have hother : ∀ b j, ω b = .ob j → j ≠ k → relab ω [k] (2 * d) b = .ob j := fun b j hb hj => relab_out hb (by simp [hj])
  have hrow : RowOk w t e (.slice ad q c) q (xs.take (q * e)) := by
    refine ⟨?_, ?_⟩
    · have := h1.1; simp; have := Nat.mul_le_mul_right e hqn; omega
    · rcases h1.2 with ⟨hn0, a', hv'⟩ | ⟨g, cap, cur, hv', hc, hg, hn, hm, hs, ht⟩
      · rw [hv] at hv'
        injection hv' with q1 q2 q3
        subst q3
        obtain rfl : q = 0 := by omega
        exact .inl ⟨rfl, ad, rfl⟩
      · rw [hv] at hv'
        injection hv' with q1 q2 q3
        subst q1; subst q3
        refine .inr ⟨g, c, cur, rfl, hc, hg, hqc, hm, hs, ?_⟩
        rw [← ht, List.take_take, Nat.min_eq_left (Nat.mul_le_mul_right e hqn)]
  have hrb : rowB (.slice ad q c) = rowB (κ k) := by rw [hv]; cases ad <;> cases c <;> rfl
  refine ⟨relab ω [k] (2 * d), setK κ (2 * d) (.slice ad q c), ?_, setK_eq _ _ _, fun b hb => relab_im hb, hother⟩
  refine h.change (2 * d) ⟨rfl, rfl, rfl, Nat.le_refl _, fun _ _ _ => rfl, fun b hb => relab_im hb, fun b _ hb => relab_no hb⟩ (fun b hb => h.rs.dom b (relab_no' hb)) (fun j hj => setK_ne _ _ hj) (fun j hj => ?_) (fun o ho => ?_) (.inr ⟨h.even d, hE, hS⟩) (noE_nn hE)
  · rw [get_cons, if_neg hj, get_del]
    by_cases hjk : j = k
    · exact .inl (by rw [if_pos hjk])
    · exact .inr ⟨by rw [if_neg hjk], fun b hb => ⟨hother b j hb hjk, rfl⟩⟩
  · rw [get_cons, if_pos rfl] at ho
    obtain rfl := Option.some.inj ho
    refine ⟨h0, xs.take (q * e), by rw [setK_eq]; exact hrow, fun b hb => ?_, ?_⟩
    · rw [setK_eq, hrb] at hb; exact hlab b (h2 b hb)
    · rw [setK_eq, hrb]
      unfold CellsOk at h3 ⊢
      cases own with
      | true =>
        simp only [if_true] at h3 ⊢
        obtain ⟨h4, Ss, h5, h6, h7⟩ := h3
        have hlt : ∀ j, j < (cs.take (q * e)).length → j < q * e ∧ j < cs.length := fun j hj => by simp at hj; omega
        refine ⟨by simp [h4], Ss, fun j x v hx hv' => ?_, fun i j b hi hj => h6 i j b (hlt i hi).2 (hlt j hj).2, fun j b hj hb => ⟨hlab b (h7 j b (hlt j hj).2 hb).1, (h7 j b (hlt j hj).2 hb).2⟩⟩
        have hj := hlt j (List.getElem?_eq_some_iff.1 hx).1
        rw [List.getElem?_take_of_lt hj.1] at hx hv'
        exact h5 j x v hx hv'
      | false =>
        simp only [Bool.false_eq_true, if_false] at h3 ⊢
        refine ⟨by simp [hcx], fun j x v hx hv' => ?_⟩
        have hj : j < q * e := by have := (List.getElem?_eq_some_iff.1 hx).1; simp at this; omega
        rw [List.getElem?_take_of_lt hj] at hx hv'
        exact (h3.2 j x v hx hv').kept fun b hb => ⟨relab_im hb, rfl⟩

theorem Src.over {ks : List Nat} {own : Bool} {ys : List IV} {vs : List Value} (h : Src w ω ks own ys vs) (him : ∀ b, ω b = .im → ω' b = .im) (hob : ∀ b j, ω b = .ob j → j ∈ ks → ω' b = .ob j) : Src w ω' ks own ys vs := by
  unfold Src at h ⊢
  split
  · rename_i ho; rw [if_pos ho] at h
    obtain ⟨h1, T, h2, h3, h4⟩ := h
    exact ⟨h1, T, h2, h3, fun j b hj hb => by obtain ⟨i, hi, hib⟩ := h4 j b hj hb; exact ⟨i, hi, hob b i hib hi⟩⟩
  · rename_i ho; rw [if_neg ho] at h
    exact h.imp fun x y _ hxy => hxy.kept fun b hb => ⟨him b hb, rfl⟩

/-- An append, whatever the flags. -/
theorem Rel.appendM (h : Rel β ω κ s a w) {d k n m : Nat} {t ty e : TypeId} {sz by_ : Nat} {zs : List Value} {cs ys : List IV} {o1 o2 o fl : Bool} {ks : List Nat} (hd : d < s.N) (ht : apOf P t = some (e, sz, by_, zs)) (hk : get s.σ k = some (.vec e sz n cs o1))
    {ad : Option Addr} {c : Nat} {vs : List Value} (hmix : mixO fl o1 o2 m = some o) (hy : ∀ own', (own' = o2 ∨ fl = true ∨ ys = []) → Src w ω ks own' ys vs) (hkk : k ∉ ks) (hks : o2 = false → ks = []) (hnil : ad = none → m = 0 ∧ c = 0) (hl : ys.length = m * sz)
    (hcell : ∀ b, ad = some b → ∀ j u, vs[j]? = some u → w.cell? (b.add j) = some u) (h63 : n + m ≤ maxLen) (hbytes : (n + m) * by_ ≤ 140737488355328) (hnn : nnE k s.E = true) :
    ∃ v' w', (Builtin.append_ #[t, t] ty #[κ k, .slice ad m c]).run P w = .ok v' w' ∧ RelE β ⟨s.N, (d, .c (.os k (n + m))) :: s.E, upd (delL s.σ ks) k (.vec e sz (n + m) (cs ++ ys) o)⟩ (a.put (some d) v') w' := by
  unfold mixO at hmix
  split at hmix
  · rename_i hc
    obtain rfl := Option.some.inj hmix
    have hs : Src w ω ks o1 ys vs := hy o1 (by
      simp only [Bool.or_eq_true, beq_iff_eq] at hc
      rcases hc with hc | hc
      · exact .inr (.inl hc)
      · exact .inl hc)
    exact h.appendE hd ht hk hs hkk hnil hl hcell h63 hbytes hnn
  · rename_i hc
    split at hmix
    · rename_i ho1
      obtain rfl := Option.some.inj hmix
      subst ho1
      have ho2 : o2 = false := by cases o2 <;> simp_all
      subst ho2
      obtain rfl := hks rfl
      obtain ⟨ω', h', him⟩ := h.shareK hk hnn
      have hs : Src w ω' [] false ys vs := (hy false (.inl rfl)).over him (by simp)
      have hsome : (get s.σ k).isSome = true := by rw [hk]; rfl
      have := h'.appendE (ty := ty) hd ht (k := k) (n := n) (cs := cs) (by rw [get_upd _ _ _ _ hsome, if_pos rfl]) hs hkk hnil hl hcell h63 hbytes hnn
      simp only [delL, upd_upd] at this ⊢
      exact this
    · cases hmix

theorem srcM_ks {fl : Bool} {x : TV} {m : Nat} {ys : List IV} {ks : List Nat} {own : Bool} (h : srcM fl σ x = some (m, ys, ks, own)) : (own = false → ks = []) ∧ ∀ k ∈ ks, (get σ k).isSome = true := by
  unfold srcM at h
  split at h
  · injection h with h; injection h with q1 h; injection h with q2 h; injection h with q3 q4
    subst q3; exact ⟨fun _ => rfl, by simp⟩
  · injection h with h; injection h with q1 h; injection h with q2 h; injection h with q3 q4
    subst q3; exact ⟨fun _ => rfl, by simp⟩
  · injection h with h; injection h with q1 h; injection h with q2 h; injection h with q3 q4
    subst q3; exact ⟨fun _ => rfl, by simp⟩
  · split at h
    · rename_i k m' o hk
      split at h
      · injection h with h; injection h with q1 h; injection h with q2 h; injection h with q3 q4
        subst q3; subst q4
        refine ⟨fun h => ?_, fun j hj => ?_⟩
        · simp only [Bool.or_eq_false_iff] at h
          simp [h.1, h.2]
        · split at hj
          · cases hj
          · split at hj
            · simp at hj; subst hj; rw [hk]; rfl
            · cases hj
      · cases h
    · cases h
  · split at h
    · split at h
      · injection h with h; injection h with q1 h; injection h with q2 h; injection h with q3 q4
        subst q3; exact ⟨fun _ => rfl, by simp⟩
      · cases h
    · cases h
  · cases h
end
end Go.VC
/- Each operation: the theorem. -/
set_option linter.unusedSimpArgs false
set_option linter.unusedVariables false
namespace Go.VC
open Go Go.RowKit
section
variable {β : Base} {w w' : World} {ω ω' : Lab} {κ κ' : Nat → Value} {σ σ' : Sto} {E : Env} {a : Act} {s : St} {P : Program}

theorem wpO_ok {o : Oper} {K : St → Prop} {next : Act → World → Prop} {Q : Exit → Act → World → Prop} (h : wpO P o s K) (hr : RelE β s a w)
    (hn : ∀ s' a' w', K s' → RelE β s' a' w' → next a' w') : o.wp P a w next Q := by
  obtain ⟨ω, κ, hr⟩ := hr
  have hev : ∀ {r : TV} {d : Nat}, o.dst = some d → ev1 P s.E s.σ o.op = some r → d < s.N → K (s.put d r) → o.wp P a w next Q := fun hd he hdN hK => by
    obtain ⟨u, g1, g2⟩ := ev1_ok (P := P) (o := o) hr.rs hr.env he
    exact wp_value g1 (by rw [hd]; exact hn _ _ _ hK ⟨ω, κ, hr.put hdN g2⟩)
  unfold wpO onS at h
  split at h <;> rename_i hop hdst
  -- store
  · rename_i t x v
    split at h
    · rename_i k off news n hx hnews hn'
      obtain ⟨vv, hv, hcs⟩ := Option.bind_eq_some_iff.1 hnews
      obtain ⟨hc1, hc2, hc3⟩ := cellsT_ok hcs (opd_ok hr.env hv)
      have hxv := opd_ok hr.env hx
      split at h
      · rename_i t' cs hk
        obtain ⟨h1, h2, h3, h4⟩ := h
        obtain ⟨b, w', e1, e2, e3⟩ := hr.stBox hk hc1 hc2 hc3 h2 h3 P
        refine wp_skip1 (w' := w') ?_ (by rw [hdst]; exact hn _ _ _ h4 ⟨ω, κ, e3⟩)
        generalize hav : a.eval x = va at hxv
        cases hxv with
        | rf _ _ b' hb' =>
          have : b = b' := by rw [e1] at hb'; simpa using hb'
          subst this
          have hsz : (a.eval v).cells.size = n := by have := hc1.1; simp at this; omega
          simp [execOp, hop, hav, Instr.storeAt, Instr.sureAddr, storeVar, run_sizeOf hn', hsz, e2]
      · exact h.elim
    · rename_i k len off news n hx hnews hn'
      obtain ⟨vv, hv, hcs⟩ := Option.bind_eq_some_iff.1 hnews
      obtain ⟨hc1, hc2, hc3⟩ := cellsT_ok hcs (opd_ok hr.env hv)
      have hxv := opd_ok hr.env hx
      have fin : ∀ (ob : Ob) (m : Nat) {b n' c : Nat} {w1 : World} {s1 : St} {ω1 : Lab}, get s.σ k = some ob → ob.len? = some m → m = len → n = news.length → κ k = .slice (some ⟨b, 0, none⟩) n' c → (storeCells ⟨b, off, none⟩ (a.eval v).cells.toList).run P w = .ok () w1 →
          Rel β ω1 κ s1 a w1 → K s1 → o.wp P a w next Q := fun ob m b n' c w1 s1 ω1 hk hm hml hnl e1 e2 e3 hK => by
        refine wp_skip1 (w' := w1) ?_ (by rw [hdst]; exact hn _ _ _ hK ⟨ω1, κ, e3⟩)
        generalize hav : a.eval x = va at hxv
        cases hxv with
        | rv _ _ _ ad hh =>
          obtain ⟨b', n'', c', q1, rfl⟩ := (hh _ _ hk hm).2 hml
          have : b = b' := by rw [e1] at q1; injection q1 with q _ _; injection q with q; injection q
          subst this
          have hsz : (a.eval v).cells.size = n := by have := hc1.1; simp at this; omega
          simp [execOp, hop, hav, Instr.storeAt, Instr.sureAddr, storeVar, run_sizeOf hn', hsz, e2]
      split at h
      · rename_i t' e m cs hk
        split at h
        · rename_i ys ks hys
          obtain ⟨h1, h2, h3, h4, h5, h6, h7⟩ := h
          obtain ⟨b, n', c, w', e1, e2, e3⟩ := hr.stVec hk (ownC_ok hr.rs hys hc1) h5 h4 P h3 h6
          exact fin _ m hk rfl h2 h1 e1 e2 e3 h7
        · exact h.elim
      · rename_i t' e m cs hk
        split at h
        · rename_i ys hys
          obtain ⟨h1, h2, h3, h4, h6, h7⟩ := h
          obtain ⟨b, n', c, w', e1, e2, e3⟩ := hr.stVec (own := false) (ks := []) hk (toIVs_ok hys hc1) (by simp) h4 P h3 h6
          exact fin _ m hk rfl h2 h1 e1 e2 e3 h7
        · exact h.elim
      · rename_i m cs hk
        split at h
        · rename_i ys ks hys
          obtain ⟨h1, h2, h3, h4, h5, h6, h7⟩ := h
          obtain ⟨b, n', c, w', e1, e2, e3⟩ := hr.stFix hk (ownC_ok hr.rs hys hc1) h5 h4 P h3 h6
          exact fin _ m hk rfl h2 h1 e1 e2 e3 h7
        · exact h.elim
      · exact h.elim
    · exact h.elim
  -- mapUpdate
  · rename_i t m q v
    split at h
    · rename_i dd z j key val hmp hm hq hv
      split at h
      · rename_i d' f hj
        obtain ⟨h1, h2, h3, h4⟩ := h
        obtain rfl := keyD_eq h1 h2
        obtain ⟨kt, et, i, g1, g2, _, _⟩ := mpOf_some hmp
        have hmv := opd_ok hr.env hm
        have hqv := opd_ok hr.env hq
        have hvv := opd_ok hr.env hv
        have hsc : scalarB val = true := by
          cases hvv with
          | im _ _ hvv => cases hvv; assumption
        obtain ⟨r, w', e1, e2, e3⟩ := hr.putMap hj (keyD_ok h1) hsc h3 g1 g2
        refine wp_skip1 (w' := w') ?_ (by rw [hdst]; exact hn _ _ _ h4 ⟨ω, κ, e3⟩)
        have am : a.eval m = .map (some r) := by
          generalize a.eval m = mv at hmv
          cases hmv with
          | mp _ r' hr' => rw [e1] at hr'; exact hr'.symm
        have aq : a.eval q = key := by
          generalize a.eval q = qv at hqv
          cases hqv with
          | im _ _ hqv => cases hqv; rfl
        have av : a.eval v = val := by
          generalize a.eval v = vv at hvv
          cases hvv with
          | im _ _ hvv => cases hvv; rfl
        simp [execOp, hop, am, aq, av, e2]
      · exact h.elim
    · exact h.elim
  -- insert
  · rename_i t m q v
    split at h
    · rename_i dd z j key val hmp hm hq hv
      split at h
      · rename_i d' f hj
        obtain ⟨h1, h2, h3, h4⟩ := h
        obtain rfl := keyD_eq h1 h2
        obtain ⟨kt, et, i, g1, g2, _, _⟩ := mpOf_some hmp
        have hmv := opd_ok hr.env hm
        have hqv := opd_ok hr.env hq
        have hvv := opd_ok hr.env hv
        have hsc : scalarB val = true := by
          cases hvv with
          | im _ _ hvv => cases hvv; assumption
        obtain ⟨r, w', e1, e2, e3⟩ := hr.putMap hj (keyD_ok h1) hsc h3 g1 g2
        refine wp_skip1 (w' := w') ?_ (by rw [hdst]; exact hn _ _ _ h4 ⟨ω, κ, e3⟩)
        have am : a.eval m = .map (some r) := by
          generalize a.eval m = mv at hmv
          cases hmv with
          | mp _ r' hr' => rw [e1] at hr'; exact hr'.symm
        have aq : a.eval q = key := by
          generalize a.eval q = qv at hqv
          cases hqv with
          | im _ _ hqv => cases hqv; rfl
        have av : a.eval v = val := by
          generalize a.eval v = vv at hvv
          cases hvv with
          | im _ _ hvv => cases hvv; rfl
        simp [execOp, hop, am, aq, av, e2]
      · exact h.elim
    · exact h.elim
  -- box
  · rename_i t x d
    split at h
    · rename_i cs hcs
      obtain ⟨h1, h2, h3, h4, h5⟩ := h
      obtain ⟨vv, hv, hcs'⟩ := Option.bind_eq_some_iff.1 hcs
      obtain ⟨hc1, hc2, hc3⟩ := cellsT_ok hcs' (opd_ok hr.env hv)
      have hb := hr.newBox (k := 2 * d) (t := t) (hr.even d) h2 h3 h4 hc1 hc2 hc3
      refine wp_value (v := .pointer (some ⟨w.heap.size, 0, none⟩)) (w' := w.alloc (.cells (a.eval x).cells t)) ?_ (by rw [hdst]; exact hn _ _ _ h5 ⟨_, _, hb.put h1 (.rf _ _ _ (setK_eq _ _ _))⟩)
      simp [execOp, hop, Instr.box, newVar, newRow]
    · exact h.elim
  -- alloc
  · rename_i t d
    split at h
    · rename_i zs hz
      obtain ⟨h1, h2, h3, h5⟩ := h
      unfold wpO.zvOf at hz
      split at hz
      · rename_i i hi
        split at hz
        · rename_i z hzz
          split at hz
          · rename_i hone
            obtain rfl := Option.some.inj hz
            have hb := hr.newBox (k := 2 * d) (t := t) (cs := z.cells.toList.map ofC) (vs := z.cells) (hr.even d) h2 h3 (hasL_ofC _ _) (All2_ofC _) (fun u hu => Array.all_eq_true_iff_forall_mem.1 hone u (by simpa using hu)) (anyNL_ofC _)
            refine wp_value (v := .pointer (some ⟨w.heap.size, 0, none⟩)) (w' := w.alloc (.cells z.cells t)) ?_ (by rw [hdst]; exact hn _ _ _ h5 ⟨_, _, hb.put h1 (.rf _ _ _ (setK_eq _ _ _))⟩)
            simp [execOp, hop, Instr.alloc, zeroValue, typeInfo, hi, hzz, newVar, newRow]
          · cases hz
        · cases hz
      · cases hz
    · exact h.elim
  -- buildSlice
  · rename_i t n ps d
    split at h
    · rename_i e sz by_ zs qs hap hqs
      obtain ⟨i, z, hu, hi, hz, hzs, hpos, rfl, rfl, rfl, hone⟩ := apOf_some hap
      split at h
      · rename_i cs hcs
        obtain ⟨h1, h2, h3, h4, h5⟩ := h
        have hz0 : All2 (RC w ω κ s.σ) (bsCells n i.size z.cells.toList) ((Array.range (n * i.size)).map fun j => z.cells[j % z.cells.size]!).toList := by
          refine ⟨by simp [bsCells], fun j x y hx hy => ?_⟩
          simp only [bsCells, List.getElem?_map] at hx
          obtain ⟨q, hq, rfl⟩ := Option.map_eq_some_iff.1 hx
          obtain ⟨hj, hq'⟩ := List.getElem?_eq_some_iff.1 hq
          simp at hj hq'
          subst hq'
          have hm : j % i.size < z.cells.size := by rw [hzs]; exact Nat.mod_lt _ hpos
          have : y = z.cells[j % i.size] := by
            simp [hj] at hy
            rw [← hy, hzs]; exact getElem!_pos z.cells _ hm
          rw [this]
          have e : z.cells.toList.getD (j % i.size) undef = z.cells[j % i.size] := by simp [List.getD, hm]
          rw [e]
          exact ofC_ok _
        have hz1 : ∀ u ∈ ((Array.range (n * i.size)).map fun j => z.cells[j % z.cells.size]!).toList, u.oneCell' = true := fun u hu => by
          simp only [Array.toList_map, List.mem_map] at hu
          obtain ⟨j, _, rfl⟩ := hu
          have hm : j % i.size < z.cells.size := by rw [hzs]; exact Nat.mod_lt _ hpos
          exact hone _ (by rw [hzs, getElem!_pos z.cells _ hm]; simp)
        obtain ⟨vs, g1, g2, g3⟩ := fillC_ok (place := fun j => some (j * i.size, i.size)) (fun j q hq => by
          rw [List.getElem?_map] at hq
          obtain ⟨j', hj', rfl⟩ := Option.map_eq_some_iff.1 hq
          obtain ⟨_, hq'⟩ := List.getElem?_eq_some_iff.1 hj'
          simp at hq'; subst hq'; rfl) (opds_ok hr.env hqs) hz0 hz1 hcs
        have hrun : (execOp a.eval o).run P w = .ok (.value (.slice (some ⟨w.heap.size, 0, none⟩) n n)) (w.alloc (.cells vs e)) := by
          have hfill : Instr.fill (fun j => some (j * i.size, i.size)) ((Array.range (n * i.size)).map fun j => z.cells[j % z.cells.size]!) (ps.toList.map fun p => (p.1, a.eval p.2)) = some vs := g1
          have hs24 : ¬ (16777216 < n * i.size) := by omega
          by_cases hn0 : n * i.size = 0
          · have hr0 : ∀ f : Nat → Value, (Array.range 0).map f = #[] := fun f => by apply Array.ext'; simp
            have hfill' : Instr.fill (fun j => some (j * i.size, i.size)) #[] (ps.toList.map fun p => (p.1, a.eval p.2)) = some vs := by rw [hn0, hr0] at hfill; exact hfill
            simp [execOp, hop, Instr.buildSlice, run_underlying hu, sizeOf, typeInfo, hi, hn0, hr0, hfill', newRow]
          · simp [execOp, hop, Instr.buildSlice, run_underlying hu, sizeOf, typeInfo, hi, hn0, zeroValue, hz, hs24, hfill, newRow]
        have hcl : cs.length = n * i.size := by rw [fillC_len hcs]; simp [bsCells]
        have hvl : vs.toList.length = n * i.size := by rw [← g2.1, hcl]
        have hnm : n ≤ maxLen := by
          have : n ≤ n * i.size := Nat.le_mul_of_pos_right _ hpos
          simp [maxLen]; omega
        have hrow : RowOk (w.alloc (.cells vs e)) e i.size (.slice (some ⟨w.heap.size, 0, none⟩) n n) n vs.toList := by
          refine ⟨hvl, ?_⟩
          rcases Nat.eq_zero_or_pos n with rfl | hnp
          · exact .inl ⟨rfl, _, rfl⟩
          · exact .inr ⟨w.heap.size, n, vs, rfl, hnp, heap_alloc_new w _, Nat.le_refl _, hnm, by simpa using hvl, by rw [← hvl]; exact List.take_length⟩
        have hrb : ∀ b, rowB (.slice (some ⟨w.heap.size, 0, none⟩) n n) = some b → w.heap.size ≤ b := fun b hb => by
          have := rowB_own hb
          simp [Value.ownBlock] at this; omega
        split at h5
        · rename_i ys ks hys
          obtain ⟨h5, h6⟩ := h5
          exact wp_value hrun (by rw [hdst]; exact hn _ _ _ h6 (hr.newRowE h1 hpos (World.grownBy_alloc w _ none) hrow hrb (ownC_ok hr.rs hys g2) h5 h3 h4))
        · split at h5
          · rename_i ys hys
            exact wp_value hrun (by rw [hdst]; exact hn _ _ _ h5 (hr.newRowE (own := false) (ks := []) h1 hpos (World.grownBy_alloc w _ none) hrow hrb (toIVs_ok hys g2) (by simp) h3 h4))
          · exact h5.elim
      · exact h.elim
    · exact h.elim
  -- makeSlice
  · rename_i t l c d
    split at h
    · rename_i e sz by_ zs kl n kc n' hap hl hc
      obtain ⟨i, z, hu, hi, hz, hzs, hpos, rfl, rfl, rfl, hone⟩ := apOf_some hap
      split at h
      · rename_i ys ks hys
        obtain ⟨h1, h2, h3, h4, h5, h6, h7, h8⟩ := h
        subst h3
        obtain ⟨nn, rfl⟩ := Int.eq_ofNat_of_zero_le h2
        simp only [Int.toNat_natCast] at h4 h5 h8
        have hlv := opd_ok hr.env hl
        have hcv := opd_ok hr.env hc
        generalize hl' : a.eval l = lv at hlv
        generalize hc' : a.eval c = cv at hcv
        cases hlv with
        | im _ _ hlv =>
          cases hlv
          cases hcv with
          | im _ _ hcv =>
            cases hcv
            obtain ⟨w', g1, g2, g3⟩ := run_make_full (P := P) w 0 t e i z i.size hu hi hz rfl kl kc nn (by omega) h5 (Nat.zero_le _)
            refine wp_value (v := .slice (some ⟨w.heap.size, 0, none⟩) nn nn) (w' := w') (by simp [execOp, hop, hl', hc', g1]) ?_
            rw [hdst]
            refine hn _ _ _ h8 (hr.newRowE (ks := []) h1 hpos g3 (rowOk_of g2) (fun b hb => ?_) (made_ok hzs hys) (by simp) h6 h7)
            have := rowB_own hb
            simp [Value.ownBlock] at this; omega
      · exact h.elim
    · exact h.elim
  -- makeMap
  · rename_i t d
    split at h
    · rename_i dd z hmp
      obtain ⟨h1, h2, h3, h4, h5⟩ := h
      have hb := hr.newMap (k := 2 * d) (d := dd) (hr.even d) h2 h3 h4
      exact wp_value (v := .map (some w.heap.size)) (w' := w.alloc (.map #[] 0)) (by simp [execOp, hop, Instr.makeMap, Result.andThen]) (by rw [hdst]; exact hn _ _ _ h5 ⟨_, _, hb.put h1 (.mp _ _ (setK_eq _ _ _))⟩)
    · exact h.elim
  -- binOp
  · rename_i op t x y u d
    split at h
    · rename_i cx hx hy
      obtain ⟨h1, h2, h3⟩ := h
      obtain ⟨ad, n, c, hv, hK⟩ := nilK_ok h3 (opd_ok hr.env hx)
      have hyv := opd_ok hr.env hy
      generalize hyy : a.eval y = vy at hyv
      cases hyv
      obtain ⟨e, hu⟩ : ∃ e, P.underlying t = some (.slice e) := by
        unfold slB at h1
        split at h1
        · rename_i e hu; exact ⟨e, hu⟩
        · cases h1
      refine wp_value (v := .bool ad.isNone) (w' := w) ?_ (by rw [hdst]; exact hn _ _ _ hK ⟨ω, κ, hr.put h2 (by cases ad <;> exact .im _ _ (.sc _ rfl))⟩)
      have hg : eqGuard .eql t x y (.slice ad n c) (.slice none 0 0) = pure () := rfl
      simp only [execOp, hop, hv, hyy, hg]
      simp [Lib.run_eql_slice_nil w t e ad n c 0 0 hu]
    · rename_i cx hx hy
      obtain ⟨h1, h2, h3⟩ := h
      obtain ⟨ad, n, c, hv, hK⟩ := nilK_ok h3 (opd_ok hr.env hx)
      have hyv := opd_ok hr.env hy
      generalize hyy : a.eval y = vy at hyv
      cases hyv
      obtain ⟨e, hu⟩ : ∃ e, P.underlying t = some (.slice e) := by
        unfold slB at h1
        split at h1
        · rename_i e hu; exact ⟨e, hu⟩
        · cases h1
      refine wp_value (v := .bool (!ad.isNone)) (w' := w) ?_ (by rw [hdst]; exact hn _ _ _ hK ⟨ω, κ, hr.put h2 (by cases ad <;> exact .im _ _ (.sc _ rfl))⟩)
      have hg : eqGuard .neq t x y (.slice ad n c) (.slice none 0 0) = pure () := rfl
      have he : (binOp .neq t (.slice ad n c) (.slice none 0 0)).run P w = .ok (.bool (!ad.isNone)) w := by
        have := Lib.run_eql_slice_nil w t e ad n c 0 0 hu
        simp only [binOp] at this ⊢
        simp [Op.equal, Op.maxDepth, Lib.run_equalIn_slice_nil w 9999 t e ad n c 0 0 hu]
      simp only [execOp, hop, hv, hyy, hg]
      simp [he]
    · split at h
      · rename_i r hr'
        exact hev hdst (by rw [hop]; exact hr') h.1 h.2
      · exact h.elim
  -- call
  · rename_i c d
    split at h
    · rename_i x y t t' hcal hargs htys
      have e1 : c.args = #[x, y] := by apply Array.ext'; simpa using hargs
      have e2 : c.argTypes = #[t, t'] := by apply Array.ext'; simpa using htys
      split at h
      · rename_i e sz by_ zs k n hap hx
        split at h
        · rename_i e' sz' n' cs o1 m ys ks o2 hk hy
          obtain ⟨rfl, rfl, rfl, rfl, hd, hl, hf, h63, hby, hkk, hnn, h⟩ := h
          split at h
          · rename_i oo hmix
            obtain ⟨yv, hyv, hsrc⟩ := Option.bind_eq_some_iff.1 hy
            obtain ⟨ad, cc, vs, hev', hya, hnil, hcell⟩ := srcM_ok hr.rs hsrc (opd_ok hr.env hyv) hf
            have hxv := opd_ok hr.env hx
            generalize hxe : a.eval x = xv at hxv
            cases hxv with
            | os _ _ ad' c' _ _ hh =>
              have hkkk := (hh _ _ hk rfl).2 rfl
              obtain ⟨v', w', g1, g2⟩ := hr.appendM (ty := o.type) hd hap hk hmix hya hkk (srcM_ks hsrc).1 hnil hl hcell h63 hby hnn
              refine wp_value (v := v') (w' := w') ?_ (by rw [hdst]; exact hn _ _ _ h g2)
              rw [hkkk] at g1
              simp [execOp, hop, resolve, hcal, e1, e2, hxe, hev', invoke, builtin, g1]
          · exact h.elim
        · exact h.elim
      · rename_i e sz by_ zs k n q hap hx
        split at h
        · rename_i e' sz' n' cs o1 m ys ks o2 hk hy
          obtain ⟨rfl, rfl, rfl, rfl, hd, hl, hf, h63, hby, hkk, hE, hS, hkd, hdk, hqn, hcl, h⟩ := h
          split at h
          · rename_i oo hmix
            obtain ⟨yv, hyv, hsrc⟩ := Option.bind_eq_some_iff.1 hy
            obtain ⟨ad, cc, vs, hev', hya, hnil, hcell⟩ := srcM_ok hr.rs hsrc (opd_ok hr.env hyv) hf
            have hxv := opd_ok hr.env hx
            generalize hxe : a.eval x = xv at hxv
            cases hxv with
            | ov _ _ _ _ ad' c' hqc _ hh =>
              obtain ⟨_, _, _, hov⟩ := (hh _ _ hk rfl).2 rfl
              obtain ⟨ω', κ', h1, h2, him, hob⟩ := hr.trunc (q := q) hk hkd hE hS hqn hcl (hov rfl) hqc
              have hksd : ∀ j ∈ ks, j ≠ k := fun j hj e => hkk (e ▸ hj)
              obtain ⟨v', w', g1, g2⟩ := h1.appendM (ty := o.type) (d := d) (k := 2 * d) (n := q) (m := m) (ys := ys) (ks := ks) hd hap (by rw [get_cons, if_pos rfl]) hmix (fun own' ho => (hya own' ho).over him fun b j hb hj => hob b j hb (hksd j hj)) hdk (srcM_ks hsrc).1 hnil hl hcell h63 hby (noE_nn hE)
              refine wp_value (v := v') (w' := w') ?_ (by
                rw [hdst]
                refine hn _ _ _ h ?_
                have : ∀ (l : List Nat) (σ : Sto), 2 * d ∉ l → upd (delL ((2 * d, Ob.vec e' sz' q (cs.take (q * sz')) o1) :: σ) l) (2 * d) (.vec e' sz' (q + m) (cs.take (q * sz') ++ ys) oo) = (2 * d, .vec e' sz' (q + m) (cs.take (q * sz') ++ ys) oo) :: delL σ l := fun l => by
                  induction l with
                  | nil => intro σ _; simp [delL, upd]
                  | cons j r ih =>
                    intro σ hj
                    simp only [List.mem_cons, not_or] at hj
                    simp only [delL, del, if_neg (Ne.symm hj.1)]
                    exact ih _ hj.2
                rw [this _ _ hdk] at g2
                exact g2)
              rw [h2] at g1
              simp [execOp, hop, resolve, hcal, e1, e2, hxe, hev', invoke, builtin, g1]
          · split at h
            · rename_i j
              obtain ⟨hfl, ho1, hx', hy', hk', hE', hS', h⟩ := h
              obtain ⟨ω2, hr2⟩ := hr.frz j
              have hN : (s.frz j).N = s.N := by unfold St.frz; split <;> rfl
              have hsrc' : srcM (flatZ zs) (s.frz j).σ (.c (.im (.sl m ys))) = some (m, ys, [], flatZ zs) := rfl
              obtain ⟨ad, cc, vs, hev', hya, hnil, hcell⟩ := srcM_ok hr2.rs hsrc' (opd_ok hr2.env hy') hf
              have hxv := opd_ok hr2.env hx'
              generalize hxe : a.eval x = xv at hxv
              cases hxv with
              | ov _ _ _ _ ad' c' hqc _ hh =>
                obtain ⟨_, _, _, hov⟩ := (hh _ _ hk' rfl).2 rfl
                obtain ⟨ω', κ', h1, h2, him, hob⟩ := hr2.trunc (q := q) hk' hkd hE' hS' hqn hcl (hov rfl) hqc
                obtain ⟨v', w', g1, g2⟩ := h1.appendM (ty := o.type) (d := d) (k := 2 * d) (n := q) (m := m) (ys := ys) (ks := []) (o := false) (by rw [hN]; exact hd) hap (by rw [get_cons, if_pos rfl]) (by rw [hfl]; rfl) (fun own' ho => (hya own' ho).over him (by simp)) (by simp) (fun _ => rfl) hnil hl hcell h63 hby (noE_nn hE')
                refine wp_value (v := v') (w' := w') ?_ (by
                  rw [hdst]
                  refine hn _ _ _ h ?_
                  simp only [delL, upd, if_true, hN] at g2
                  exact g2)
                rw [h2] at g1
                simp [execOp, hop, resolve, hcal, e1, e2, hxe, hev', invoke, builtin, g1]
            · exact h.elim
        · exact h.elim
      · rename_i e sz by_ zs hap hx
        split at h
        · rename_i m ys ks o2 hy
          obtain ⟨rfl, hd, hE, hS, hl, hf, h63, hby, hdk, hK⟩ := h
          obtain ⟨yv, hyv, hsrc⟩ := Option.bind_eq_some_iff.1 hy
          obtain ⟨i, z, hu, hi, hz, hzs, hpos, rfl, rfl, rfl, hone⟩ := apOf_some hap
          obtain ⟨ad, cc, vs, hev', hya, hnil, hcell⟩ := srcM_ok hr.rs hsrc (opd_ok hr.env hyv) hf
          have hxv := opd_ok hr.env hx
          generalize hxe : a.eval x = xv at hxv
          cases hxv with
          | nl =>
            have hs := hya o2 (.inl rfl)
            obtain ⟨v', w', g1, g2, g3, _, g5⟩ := append_row (P := P) (ty := o.type) hu hi hz hzs hpos (w := w) (v := .slice none 0 0) (n := 0) (xs := []) ⟨by simp, .inl ⟨rfl, none, rfl⟩⟩ ad m cc vs hnil (by rw [← hs.len]; exact hl) hcell hs.one (by omega) (by simpa using hby)
            simp only [Nat.zero_add, List.nil_append] at g2
            refine wp_value (v := v') (w' := w') ?_ (by rw [hdst]; exact hn _ _ _ hK (hr.newRowE hd hpos g3 g2 (fun b hb => (g5 b hb).resolve_left (by simp [rowB])) hs hdk hE hS))
            simp [execOp, hop, resolve, hcal, e1, e2, hxe, hev', invoke, builtin, g1]
        · exact h.elim
      · rename_i e sz by_ zs hap hx
        split at h
        · rename_i m ys ks o2 hy
          obtain ⟨rfl, hd, hE, hS, hl, hf, h63, hby, hdk, hK⟩ := h
          obtain ⟨yv, hyv, hsrc⟩ := Option.bind_eq_some_iff.1 hy
          obtain ⟨i, z, hu, hi, hz, hzs, hpos, rfl, rfl, rfl, hone⟩ := apOf_some hap
          obtain ⟨ad, cc, vs, hev', hya, hnil, hcell⟩ := srcM_ok hr.rs hsrc (opd_ok hr.env hyv) hf
          have hxv := opd_ok hr.env hx
          generalize hxe : a.eval x = xv at hxv
          cases hxv with
          | ik _ _ _ adx hxv =>
            have hv0 : RowOk w e i.size (.slice adx 0 0) 0 [] := ⟨by simp, .inl ⟨rfl, adx, rfl⟩⟩
            have hs := hya o2 (.inl rfl)
            obtain ⟨v', w', g1, g2, g3, _, g5⟩ := append_row (P := P) (ty := o.type) hu hi hz hzs hpos (w := w) (v := .slice adx 0 0) (n := 0) (xs := []) hv0 ad m cc vs hnil (by rw [← hs.len]; exact hl) hcell hs.one (by omega) (by simpa using hby)
            have hrb : rowB (.slice adx 0 0) = none := by cases adx <;> rfl
            rw [hrb] at g3 g5
            simp only [Nat.zero_add, List.nil_append] at g2
            refine wp_value (v := v') (w' := w') ?_ (by rw [hdst]; exact hn _ _ _ hK (hr.newRowE hd hpos g3 g2 (fun b hb => (g5 b hb).resolve_left (by simp)) hs hdk hE hS))
            simp [execOp, hop, resolve, hcal, e1, e2, hxe, hev', invoke, builtin, g1]
        · exact h.elim
      · rename_i e sz by_ zs c0 n cs hneg hap hx
        split at h
        · rename_i m ys ks o2 hy
          obtain ⟨rfl, hcap, hcl, hd, hE, hS, hl, hf, hfo, h63, hby, rfl, hK⟩ := h
          obtain ⟨yv, hyv, hsrc⟩ := Option.bind_eq_some_iff.1 hy
          obtain ⟨i, z, hu, hi, hz, hzs, hpos, rfl, rfl, rfl, hone⟩ := apOf_some hap
          obtain ⟨ad, cc, vs, hev', hya, hnil, hcell⟩ := srcM_ok hr.rs hsrc (opd_ok hr.env hyv) fun h => (hf h).1
          have hxv := opd_ok hr.env hx
          generalize hxe : a.eval x = xv at hxv
          cases hxv with
          | ik _ _ _ adx hxv =>
            obtain ⟨adx', cx, us, hev2, hua, hnil2, hcell2⟩ := RI_src hxv
            injection hev2 with q1 _ q3
            subst q1; subst q3
            have hnc : n ≤ c0 := by cases hxv <;> omega
            have hs := hya (flatZ z.cells.toList) (by
              cases hfl : flatZ z.cells.toList with
              | true => exact .inr (.inl rfl)
              | false =>
                rcases hfo hfl with h | h
                · exact .inl h.symm
                · exact .inr (.inr h))
            obtain ⟨w', cap', g1, g2, g3⟩ := append_fresh (P := P) (ty := o.type) hu hi hz hzs hpos (adx := adx) (n := n) (c0 := c0) (us := us) (by rw [← hua.1]; exact hcl) hcell2 hnil2 hnc ad m cc vs hnil (by rw [← hs.len]; exact hl) hcell hcap h63 hby
            have hsc : Src w ω [] (flatZ z.cells.toList) (cs ++ ys) (us ++ vs) := by
              cases hfl : flatZ z.cells.toList with
              | true =>
                have h1 := src_flat (ω := ω) (hua.imp fun x y _ h => .inl h) (hf hfl).2 false
                have h2 := hya false (.inr (.inl hfl))
                have h3 : All2 (RI w ω) (cs ++ ys) (us ++ vs) := All2.append (show All2 (RI w ω) cs us from h1) (show All2 (RI w ω) ys vs from h2)
                refine src_flat (h3.imp fun x y _ h => .inl h) ?_ true
                have : ∀ l : List IV, allSc l = true → allSc (l ++ ys) = true := fun l => by
                  induction l with
                  | nil => intro _; exact (hf hfl).1
                  | cons x r ih =>
                    intro h
                    cases x with
                    | sc => exact ih h
                    | _ => cases h
                exact this cs (hf hfl).2
              | false =>
                rw [hfl] at hs
                exact All2.append hua hs
            refine wp_value (v := .slice (some ⟨w.heap.size, 0, none⟩) (n + m) cap') (w' := w') ?_ (by
              rw [hdst]
              refine hn _ _ _ hK (hr.newRowE (ks := []) hd hpos g3 g2 (fun b hb => ?_) hsc (by simp) hE hS)
              have := rowB_own hb
              simp [Value.ownBlock] at this; omega)
            simp [execOp, hop, resolve, hcal, e1, e2, hxe, hev', invoke, builtin, g1]
        · exact h.elim
      · exact h.elim
    · rename_i x t hcal hargs htys
      have e1 : c.args = #[x] := by apply Array.ext'; simpa using hargs
      have e2 : c.argTypes = #[t] := by apply Array.ext'; simpa using htys
      split at h
      · rename_i r hr'
        obtain ⟨p, hp, hev'⟩ := Option.bind_eq_some_iff.1 hr'
        obtain ⟨u, g1, g2⟩ := evLen_ok (P := P) (ty := o.type) hev' (opd_ok hr.env hp)
        refine wp_value (v := u) (w' := w) ?_ (by rw [hdst]; exact hn _ _ _ h.2 ⟨ω, κ, hr.put h.1 g2⟩)
        simp [execOp, hop, resolve, hcal, e1, e2, invoke, builtin, g1]
      · exact h.elim
    · rename_i f hcal
      split at h
      · rename_i g caps xs hf hxs
        obtain ⟨hok, hK⟩ := h
        obtain ⟨x, hx, hg⟩ := Option.bind_eq_some_iff.1 hf
        obtain ⟨cs, hv, hc⟩ := calleeOf_ok hg (opd_ok hr.env hx)
        have hav := opsT_ok hr.env hxs
        have hall : All2 (RT w ω κ s.σ) (xs ++ caps) ((c.args.toList.map a.eval) ++ cs) := hav.append hc
        have hargs' : c.args.map a.eval ++ cs.toArray = ((c.args.toList.map a.eval) ++ cs).toArray := by apply Array.ext'; simp
        refine wp_enter (g := g) (args := ((c.args.toList.map a.eval) ++ cs).toArray) ?_ ((hK β ω κ a w _ hr hall).mono fun e w' ⟨v, he, s', hK', hr'⟩ => ⟨v, he, by rw [hdst]; exact hn _ _ _ hK' hr'⟩)
        rw [← hargs']
        simp [execOp, hop, resolve, hcal, hv, Deferred.ofValue, invoke, run_callFunc hok]
      · exact h.elim
    · split at h
      · rename_i r hr'
        exact hev hdst (by rw [hop]; exact hr') h.1 h.2
      · exact h.elim
  -- the others
  · rename_i d hdst' _ _ _ _ _
    split at h
    · rename_i r hr'
      exact hev hdst' hr' h.1 h.2
    · exact h.elim
  · exact h.elim
end
end Go.VC
/- Regions, code, calls, and the contract of a function from its code. -/
set_option linter.unusedSimpArgs false
set_option linter.unusedVariables false
namespace Go.VC
open Go Go.RowKit
section
variable {β : Base} {w w' : World} {ω ω' : Lab} {κ κ' : Nat → Value} {σ σ' : Sto} {E : Env} {a : Act} {s : St} {P : Program}

/-- Is an operation performed? ('.tp []' stands for what was not performed.) -/
def gdOf (ops : Array Oper) (E : Env) (o : Oper) : Option Bool :=
  match o.guard with
  | none => some true
  | some (j, want) => match (ops[j]?).bind (·.dst) with
    | some d => match get E d with
      | some (.c (.im (.sc (.bool b)))) => some (b == want)
      | some (.tp []) => some false
      | _ => none
    | none => none
def opsW (P : Program) (ops : Array Oper) : List Oper → St → (St → Prop) → Prop
  | [], s, K => K s
  | o :: r, s, K => gdP (gdOf ops s.E o) (wpO P o s fun s' => opsW P ops r s' K)
    (match o.dst with
      | some d => d < s.N ∧ opsW P ops r (s.put d (.tp [])) K
      | none => opsW P ops r s K) .mk .mk

theorem gdOf_ok (hE : EnvOk w ω κ σ E a.tmps) {ops : Array Oper} {o : Oper} {b : Bool} (h : gdOf ops E o = some b) : Region.wanted o (yielded ops a.tmps) = b := by
  unfold gdOf at h
  split at h
  · rename_i hg; obtain rfl := Option.some.inj h; simp [Region.wanted, hg]
  · rename_i j want hg
    split at h
    · rename_i d hd
      split at h
      · rename_i b' hb'
        obtain rfl := Option.some.inj h
        obtain ⟨h1, h2⟩ := hE d _ hb'
        have h3 : a.tmps[d]? = some (.bool b') := by
          generalize hv : a.tmps.getD d undef = v at h2
          cases h2 with
          | im _ _ h2 => cases h2; rw [← hv]; simp [Array.getD, h1]
        simp [Region.wanted, hg, yielded, hd, h3]
      · rename_i hb'
        obtain rfl := Option.some.inj h
        obtain ⟨h1, vs, h2, h3⟩ := hE d _ hb'
        have : vs = [] := List.eq_nil_of_length_eq_zero h3.1.symm
        subst this
        have h4 : a.tmps[d]? = some (.tuple #[]) := by rw [← h2]; simp [Array.getD, h1]
        simp [Region.wanted, hg, yielded, hd, h4]
      · cases h
    · cases h

theorem opsW_ok {ops : Array Oper} {Q : Exit → Act → World → Prop} : ∀ {l : List Oper} {s : St} {a : Act} {w : World} {K : St → Prop}, opsW P ops l s K → RelE β s a w →
    (∀ s' a' w', K s' → RelE β s' a' w' → Q .normal a' w') → wpList P ops Q l a w
  | [], s, a, w, K, h, hr, hn => hn _ _ _ h hr
  | o :: r, s, a, w, K, h, hr, hn => by
    obtain ⟨ω, κ, hr'⟩ := id hr
    unfold opsW gdP at h
    unfold wpList
    split at h
    · rename_i hg
      rw [if_pos (gdOf_ok hr'.env hg)]
      exact .inl (wpO_ok h hr fun s' a' w' hK hr'' => opsW_ok hK hr'' hn)
    · rename_i hg
      have hf := gdOf_ok hr'.env hg
      rw [if_neg (by rw [hf]; simp)]
      split at h
      · rename_i d hd
        rw [hd]
        exact opsW_ok h.2 ⟨ω, κ, hr'.put h.1 ⟨[], rfl, rfl, by simp⟩⟩ hn
      · rename_i hd
        rw [hd]
        exact opsW_ok h hr hn
    · exact h.elim

/-- What code comes to: 'K' of how it is left and of the frame then. -/
def Sm (P : Program) (c : Code) (s : St) (K : Exit → St → Prop) : Prop :=
  ∀ β a w, RelE β s a w → c.wp P (fun e a' w' => ∃ s', K e s' ∧ RelE β s' a' w') a w
/-- On, if the code was left in the normal way. -/
def Kn (next : St → Prop) (K : Exit → St → Prop) : Exit → St → Prop
  | .normal, s => next s
  | e, s => K e s
/-- Behind a block. -/
def Kb (id : Nat) (K : Exit → St → Prop) : Exit → St → Prop
  | .exit id', s => if id' = id then K .normal s else K (.exit id') s
  | e, s => K e s

theorem Sm.mono {c : Code} {K K' : Exit → St → Prop} (h : Sm P c s K) (hk : ∀ e s, K e s → K' e s) : Sm P c s K' :=
  fun β a w hr => wp_mono (h β a w hr) fun e a' w' ⟨s', h1, h2⟩ => ⟨s', hk _ _ h1, h2⟩
theorem Sm.skip {K : Exit → St → Prop} (h : K .normal s) : Sm P .skip s K := fun _ _ _ hr => wp_skip ⟨s, h, hr⟩
theorem Sm.exit {K : Exit → St → Prop} {id : Nat} (h : K (.exit id) s) : Sm P (.exit id) s K := fun _ _ _ hr => wp_exit ⟨s, h, hr⟩
theorem Sm.ret {K : Exit → St → Prop} (h : K .ret s) : Sm P .ret s K := fun _ _ _ hr => wp_ret ⟨s, h, hr⟩
/-- What is left to do. -/
def Cont (P : Program) (d : Code) (K : Exit → St → Prop) (s : St) : Prop := Sm P d s K
theorem Sm.seq {c d : Code} {K : Exit → St → Prop} (h : Sm P c s (Kn (Cont P d K) K)) : Sm P (.seq c d) s K := fun β a w hr => by
  refine wp_seq (wp_mono (h β a w hr) fun e a' w' ⟨s', h1, h2⟩ => ?_)
  cases e with
  | normal => exact h1 β a' w' h2
  | _ => exact ⟨s', h1, h2⟩
theorem Sm.cond {c d : Code} {x : Operand} {b : Bool} {K : Exit → St → Prop} (hx : opd s.E x = some (.c (.im (.sc (.bool b))))) (h1 : b = true → Sm P c s K) (h2 : b = false → Sm P d s K) : Sm P (.cond x c d) s K := fun β a w hr => by
  obtain ⟨ω, κ, hr'⟩ := id hr
  have hv := opd_ok hr'.env hx
  generalize hav : a.eval x = v at hv
  cases hv with
  | im _ _ hv =>
    cases hv
    refine wp_cond hav ?_
    cases b
    · exact h2 rfl β a w hr
    · exact h1 rfl β a w hr
theorem Sm.block {id : Nat} {c : Code} {K : Exit → St → Prop} (h : Sm P c s (Kb id K)) : Sm P (.block id c) s K := fun β a w hr => by
  refine wp_block (wp_mono (h β a w hr) fun e a' w' ⟨s', h1, h2⟩ => ?_)
  cases e with
  | exit id' =>
    simp only [Exit.inBlock, Kb] at *
    split
    · rename_i he; rw [if_pos he] at h1; exact ⟨s', h1, h2⟩
    · rename_i he; rw [if_neg he] at h1; exact ⟨s', h1, h2⟩
  | _ => exact ⟨s', h1, h2⟩
theorem Sm.region {id : Nat} {ops : Array Oper} {K : Exit → St → Prop} (h : opsW P ops ops.toList s (K .normal)) : Sm P (.region id ops false) s K := fun β a w hr =>
  wp_region_list (opsW_ok h hr fun s' a' w' h1 h2 => ⟨s', h1, h2⟩)
/-- A loop: what holds at each round's head, by a number that goes down. -/
theorem Sm.loop {c : Code} {K : Exit → St → Prop} (I : Nat → St → Prop) (h0 : ∃ n, I n s) (hround : ∀ n s, I n s → Sm P c s (Kn (fun s' => ∃ m, m < n ∧ I m s') K)) : Sm P (.loop c) s K := fun β a w hr => by
  obtain ⟨n0, h0⟩ := h0
  -- the least number serves as the measure
  have hex : ∀ a w, (∃ n s, I n s ∧ RelE β s a w) → ∃ n, (∃ s, I n s ∧ RelE β s a w) ∧ ∀ m, m < n → ¬ ∃ s, I m s ∧ RelE β s a w := by
    intro a w ⟨n, hn⟩
    induction n using Nat.strongRecOn with
    | _ n ih =>
      by_cases h : ∃ m, m < n ∧ ∃ s, I m s ∧ RelE β s a w
      · obtain ⟨m, hm, hs⟩ := h; exact ih m hm hs
      · exact ⟨n, hn, fun m hm hs => h ⟨m, hm, hs⟩⟩
  classical
  refine wp_loop (fun a w => ∃ n s, I n s ∧ RelE β s a w) (fun a w => if h : ∃ n s, I n s ∧ RelE β s a w then (hex a w h).choose else 0) ⟨n0, s, h0, hr⟩ fun a w hI => ?_
  obtain ⟨⟨s1, hs1, hr1⟩, hleast⟩ := (hex a w hI).choose_spec
  refine wp_mono (hround _ s1 hs1 β a w hr1) fun e a' w' ⟨s', h1, h2⟩ => ?_
  cases e with
  | normal =>
    obtain ⟨m, hm, hIm⟩ := h1
    have hI' : ∃ n s, I n s ∧ RelE β s a' w' := ⟨m, s', hIm, h2⟩
    refine ⟨hI', ?_⟩
    simp only [dif_pos hI, dif_pos hI']
    refine Nat.lt_of_le_of_lt ?_ hm
    rcases Nat.lt_or_ge m (hex a' w' hI').choose with h | h
    · exact absurd ⟨s', hIm, h2⟩ ((hex a' w' hI').choose_spec.2 m h)
    · exact h
  | _ => exact ⟨s', h1, h2⟩


/-- What is known less. -/
def Weak (s s' : St) : Prop := s'.N = s.N ∧ (∀ t x, get s'.E t = some x → get s.E t = some x) ∧ (∀ k o, get s'.σ k = some o → get s.σ k = some o)
theorem Rel.weak {s' : St} (h : Rel β ω κ s a w) (hw : Weak s s') : Rel β ω κ s' a w := by
  obtain ⟨h1, h2, h3⟩ := hw
  have hk : ∀ k, KeyOk κ s.σ κ s'.σ k := fun k => ⟨fun _ => rfl, fun o m hg hm => ⟨o, m, h3 _ _ hg, hm, Nat.le_refl _, fun _ => rfl⟩⟩
  have him : ∀ b, ω b = .im → ω b = .im ∧ w.heap[b]? = w.heap[b]? := fun b hb => ⟨hb, rfl⟩
  refine ⟨h.turn, fun k hk' => (h.keys k hk').trans (hk k), h.odd, h.defers, by rw [h1]; exact h.size, fun t x hx => ⟨(h.env t x (h2 t x hx)).1, (h.env t x (h2 t x hx)).2.step ⟨him, fun k _ => hk k, fun k _ o m hg hm => ⟨⟨o, m, h3 _ _ hg, hm⟩, rfl, fun _ _ _ _ _ => rfl⟩⟩⟩, ⟨fun k o hg => (h.rs.ob k o (h3 k o hg)).step rfl (fun b hb => ⟨hb, rfl⟩) him fun _ _ _ i _ => hk i, h.rs.dom⟩⟩
theorem RelE.weak {s' : St} (h : RelE β s a w) (hw : Weak s s') : RelE β s' a w := by
  obtain ⟨ω, κ, h⟩ := h
  exact ⟨ω, κ, h.weak hw⟩
theorem Sm.weak {c : Code} {s' : St} {K : Exit → St → Prop} (hw : Weak s s') (h : Sm P c s' K) : Sm P c s K := fun β a w hr => h β a w (hr.weak hw)
/-! Steps of thought: what is known is put another way. -/
theorem Sm.frz {c : Code} {K : Exit → St → Prop} (ks : List Nat) (h : Sm P c (s.frzAll ks) K) : Sm P c s K := fun β a w ⟨ω, κ, hr⟩ => by
  obtain ⟨ω', h1⟩ := hr.frzAll ks
  exact h β a w ⟨ω', κ, h1⟩
theorem Sm.share {c : Code} {K : Exit → St → Prop} (k : Nat) (hn : nnE k s.E = true) (h : Sm P c (s.share k) K) : Sm P c s K := fun β a w ⟨ω, κ, hr⟩ => by
  obtain ⟨ω', h1⟩ := hr.share k hn
  exact h β a w ⟨ω', κ, h1⟩
theorem Sm.toRow {c : Code} {K : Exit → St → Prop} (k : Nat) (hn : nnE k s.E = true) (h : Sm P c (s.toRow k) K) : Sm P c s K := fun β a w ⟨ω, κ, hr⟩ => h β a w ⟨ω, κ, hr.toRow k hn⟩

/-- A function's results. -/
def resOf (P : Program) (s : St) : List ResultVar → Option (List TV)
  | [] => some []
  | .tmp t :: r => (get s.E t).bind fun x => (resOf P s r).map (x :: ·)
  | .cell t ty :: r => ((get s.E t).bind fun x => evLoad P s.σ ty x).bind fun y => (resOf P s r).map (y :: ·)
/-- The one result, or all of them. -/
def retOf (P : Program) (s : St) (l : List ResultVar) : Option TV :=
  (resOf P s l).bind fun
    | [x] => some x
    | ys => if ys.all (fun | .tp _ => false | _ => true) then some (.tp ys) else none
/-- What the parameters are at first. -/
def argE : Nat → List TV → Env
  | _, [] => []
  | n, x :: r => (n, x) :: argE (n + 1) r
theorem argE_get : ∀ (xs : List TV) (n t : Nat) (x : TV), get (argE n xs) t = some x → n ≤ t ∧ xs[t - n]? = some x
  | [], n, t, x, h => by simp [argE, Go.VC.get] at h
  | y :: r, n, t, x, h => by
    rw [argE, get_cons] at h
    split at h
    · rename_i ht; subst ht; exact ⟨Nat.le_refl _, by simpa using h⟩
    · obtain ⟨h1, h2⟩ := argE_get r (n + 1) t x h
      refine ⟨by omega, ?_⟩
      have : t - n = (t - (n + 1)) + 1 := by omega
      rw [this]; simpa using h2

def rvRun (tmps : Array Value) : ResultVar → Go.Sem Value
  | .tmp t => pure (tmps.getD t undef)
  | .cell c t => do loadVar t (← asAddr (tmps.getD c undef))
theorem results_eq (fn : Func) (tmps : Array Value) : results fn tmps = (do let vs ← fn.results.mapM (rvRun tmps); pure (if h : vs.size = 1 then vs[0] else .tuple vs)) := rfl
theorem run_resOf (h : Rel β ω κ s a w) : ∀ {l : List ResultVar} {xs : List TV}, resOf P s l = some xs → ∃ vs : List Value, All2 (RT w ω κ s.σ) xs vs ∧ (l.mapM (rvRun a.tmps)).run P w = .ok vs w
  | [], xs, hx => by obtain rfl := Option.some.inj hx; exact ⟨[], ⟨rfl, by simp⟩, by simp⟩
  | .tmp t :: r, xs, hx => by
    simp only [resOf] at hx
    obtain ⟨x, h1, hx⟩ := Option.bind_eq_some_iff.1 hx
    obtain ⟨ys, h2, rfl⟩ := Option.map_eq_some_iff.1 hx
    obtain ⟨vs, g1, g2⟩ := run_resOf h h2
    have g0 : (rvRun a.tmps (.tmp t)).run P w = .ok (a.tmps.getD t undef) w := rfl
    refine ⟨a.tmps.getD t undef :: vs, ⟨by simp [g1.1], fun j y z hy hz => ?_⟩, by simp only [List.mapM_cons, Sem.run_bind, g0, Result.andThen, g2]; rfl⟩
    cases j with
    | zero => simp only [List.getElem?_cons_zero, Option.some.injEq] at hy hz; subst hy; subst hz; exact (h.env t x h1).2
    | succ j => exact g1.2 j y z (by simpa using hy) (by simpa using hz)
  | .cell t ty :: r, xs, hx => by
    simp only [resOf] at hx
    obtain ⟨x, h1, hx⟩ := Option.bind_eq_some_iff.1 hx
    obtain ⟨ys, h2, rfl⟩ := Option.map_eq_some_iff.1 hx
    obtain ⟨p, h3, h4⟩ := Option.bind_eq_some_iff.1 h1
    obtain ⟨vs, g1, g2⟩ := run_resOf h h2
    obtain ⟨u, g3, g4⟩ := evLoad_ok (P := P) h.rs h4 (h.env t p h3).2
    obtain ⟨ad, had⟩ : ∃ ad, a.tmps.getD t undef = .pointer (some ad) := by
      have := (h.env t p h3).2
      unfold evLoad at h4
      split at h4
      · obtain ⟨q, hq, _⟩ := Option.bind_eq_some_iff.1 h4
        obtain ⟨ad, had, _⟩ := ptr_ok h.rs (cs := q.1) (off := q.2) hq this
        exact ⟨ad, had⟩
      · cases h4
    rw [had] at g3
    have g0 : (rvRun a.tmps (.cell t ty)).run P w = .ok u w := by
      show (do loadVar ty (← asAddr (a.tmps.getD t undef)) : Go.Sem Value).run P w = _
      rw [had]
      simpa [Instr.loadAt, Instr.sureAddr, asAddr] using g3
    refine ⟨u :: vs, ⟨by simp [g1.1], fun j y z hy hz => ?_⟩, by simp only [List.mapM_cons, Sem.run_bind, g0, Result.andThen, g2]; rfl⟩
    cases j with
    | zero => simp only [List.getElem?_cons_zero, Option.some.injEq] at hy hz; subst hy; subst hz; exact g4
    | succ j => exact g1.2 j y z (by simpa using hy) (by simpa using hz)


/-- Behind a function's code. -/
def RetK (P : Program) (l : List ResultVar) (σ1 : Sto) (r : TV) : Exit → St → Prop := fun e s => (e = .normal ∨ e = .ret) ∧ ∃ ks, retOf P (s.frzAll ks) l = some r ∧ ∀ k o, get σ1 k = some o → get (s.frzAll ks).σ k = some o
theorem FnS.of {g : FuncId} {fn : Func} {c : Code} {args : List TV} {σ0 σ1 : Sto} {r : TV} (hf : P.funcs[g]? = some fn) (hb : fn.body = some c) (hN : args.length ≤ fn.ntmps) (hodd : ∀ k, (get σ0 k).isSome = true → k % 2 = 1)
    (h : Sm P c ⟨fn.ntmps, argE 0 args, σ0⟩ (RetK P fn.results.toList σ1 r)) : FnS P g σ0 args σ1 r := by
  intro w ω κ vs hS hω hvs
  refine calls_of_wp hf hb ?_
  have hsz : (vs.toArray ++ Array.replicate (fn.ntmps - vs.toArray.size) undef).size = fn.ntmps := by have := hvs.1; simp; omega
  have hrel : Rel ⟨w, ω, κ, σ0⟩ ω κ ⟨fn.ntmps, argE 0 args, σ0⟩ { tmps := vs.toArray ++ Array.replicate (fn.ntmps - vs.toArray.size) undef, defers := [] } w := by
    refine ⟨Turn.refl _ _, fun k _ => KeyOk.refl _ _ _, hodd, rfl, hsz, fun t x hx => ?_, hS⟩
    obtain ⟨_, h1⟩ := argE_get args 0 t x hx
    simp only [Nat.sub_zero] at h1
    obtain ⟨v, hv, hr⟩ := hvs.get h1
    have hlt := (List.getElem?_eq_some_iff.1 hv).1
    refine ⟨by rw [hsz]; have := hvs.1; omega, ?_⟩
    have : (vs.toArray ++ Array.replicate (fn.ntmps - vs.toArray.size) undef).getD t undef = v := by
      rw [Array.getD_eq_getD_getElem?, Array.getElem?_append_left (by simpa using hlt)]
      simp [hv]
    rw [this]; exact hr
  refine wp_mono (h _ _ _ ⟨ω, κ, hrel⟩) fun e a' w' ⟨s', ⟨he, ks, hret, hsub⟩, ω1, κ', hr1⟩ => ?_
  obtain ⟨ω', hr⟩ := hr1.frzAll ks
  generalize s'.frzAll ks = s2 at hret hsub hr
  obtain ⟨xs, hxs, hret⟩ := Option.bind_eq_some_iff.1 hret
  obtain ⟨us, g1, g2⟩ := run_resOf hr hxs
  have hrw := hr.weak (s' := ⟨s2.N, s2.E, σ1⟩) ⟨rfl, fun _ _ h => h, hsub⟩
  have hk1 : ∀ k, KeyOk κ' s2.σ κ' σ1 k := fun k => ⟨fun _ => rfl, fun o m hg hm => ⟨o, m, hsub _ _ hg, hm, Nat.le_refl _, fun _ => rfl⟩⟩
  have g3 : All2 (RT w' ω' κ' σ1) xs us := g1.imp fun x y _ hxy => hxy.step ⟨fun b hb => ⟨hb, rfl⟩, fun k _ => hk1 k, fun k _ o m hg hm => ⟨⟨o, m, hsub _ _ hg, hm⟩, rfl, fun _ _ _ _ _ => rfl⟩⟩
  have hmap : (fn.results.mapM (rvRun a'.tmps)).run P w' = .ok us.toArray w' := by
    rw [Array.mapM_eq_mapM_toList]
    show (List.toArray <$> List.mapM (rvRun a'.tmps) fn.results.toList).run P w' = _
    rw [map_eq_pure_bind]
    simp only [Sem.run_bind, g2, Result.andThen]
    rfl
  have hfin : ∃ v, (results fn a'.tmps).run P w' = .ok v w' ∧ RT w' ω' κ' σ1 r v := by
    rw [results_eq]
    simp only [Sem.run_bind, hmap, Result.andThen]
    have hl := g3.1
    split at hret
    · rename_i x
      obtain rfl := Option.some.inj hret
      match us, hl, g3 with
      | [u], _, g3 => exact ⟨u, by simp, g3.2 0 _ _ rfl rfl⟩
      | [], hl, _ => simp at hl
      | _ :: _ :: _, hl, _ => simp at hl
    · rename_i hne
      split at hret
      · rename_i hall
        obtain rfl := Option.some.inj hret
        have hne1 : us.length ≠ 1 := fun e => by
          rw [← hl] at e
          match xs, e with
          | [x], _ => exact hne x rfl
        refine ⟨.tuple us.toArray, ?_, us, rfl, g3.1, fun j x y hx hy => ?_⟩
        · have : ¬ us.toArray.size = 1 := by simpa using hne1
          simp [hne1]
        · have h1 := g3.2 j x y hx hy
          have h2 := List.all_eq_true.1 hall x (List.mem_of_getElem? hx)
          cases x with
          | c x => exact h1
          | ag cs => exact h1
          | tp ts => cases h2
      · cases hret
  obtain ⟨v, hv, hrv⟩ := hfin
  have hpost : ∃ v0 ω' κ', Ending.returned v = Ending.returned v0 ∧ Turn w ω w' ω' ∧ RS w' ω' κ' σ1 ∧ RT w' ω' κ' σ1 r v0 ∧ ∀ k, (get σ0 k).isSome = true → KeyOk κ σ0 κ' σ1 k := ⟨v, ω', κ', rfl, hrw.turn, hrw.rs, hrv, hrw.keys⟩
  rcases he with rfl | rfl
  · exact ⟨hr.defers, v, hv, hpost⟩
  · exact ⟨hr.defers, v, hv, hpost⟩

/-! Calls. -/
theorem ArgsOk.val (hS : RS w ω κ σ) {σ0 σa : Sto} {l : Lb} (hsub : ∀ k o, get σ0 k = some o → get σ k = some o) (hl : l = .im ∨ l = .no) (ha : ∀ k o, get σa k = some o → get σ k = some o ∧ (get σ0 k).isSome = false ∧ l = .im) : ∀ {xs ys : List TV} {vs : List Value}, ArgsOk σa xs ys → All2 (RT w ω κ σ) xs vs → All2 (RT w (seenL ω σ0 l) κ σ0) ys vs
  | [], [], vs, _, hv => ⟨hv.1, by simp⟩
  | [], _ :: _, _, h, _ => h.elim
  | _ :: _, [], _, h, _ => h.elim
  | x :: xs, y :: ys, [], _, hv => by simp [All2] at hv
  | x :: xs, y :: ys, v :: vs, h, hv => by
    refine .cons ?_ (ArgsOk.val hS hsub hl ha h.2 hv.tail)
    have hx := hv.head
    obtain ⟨_, _, h3⟩ := seen_ok hS hl hsub
    rcases h.1 with rfl | h1
    · exact h3 _ _ hx
    · obtain ⟨hSa, _, h4⟩ := seen_ok (l := .no) hS (.inr rfl) fun k o hk => (ha k o hk).1
      have hi : ∀ b, allIm (seenL ω σa .no) b = .im → seenL ω σ0 l b = .im ∧ w.heap[b]? = w.heap[b]? := fun b hb => by
        refine ⟨?_, rfl⟩
        cases hw : ω b with
        | im => exact seen_im hw
        | no => unfold allIm at hb; rw [seen_no hw] at hb; cases hb
        | ob k =>
          cases hk : (get σa k).isSome with
          | false => unfold allIm at hb; rw [seen_out hw hk] at hb; cases hb
          | true =>
            obtain ⟨o, ho⟩ := Option.isSome_iff_exists.1 hk
            obtain ⟨_, h5, h6⟩ := ha k o ho
            rw [seen_out hw h5, h6]
      have hx' := h4 x v hx
      cases x with
      | tp ts => exact h1.elim
      | c x =>
        obtain ⟨z, hz, rfl⟩ := h1
        exact .im _ _ ((toIV_ok hSa hx' hz).kept hi)
      | ag cs =>
        obtain ⟨zs, hz, rfl⟩ := h1
        obtain ⟨us, rfl, g1, g2⟩ := hx'
        have := toIVL_ok hSa hz g1
        refine ⟨us, rfl, ⟨by simp [this.1], fun j p q hp hq => ?_⟩, g2⟩
        rw [List.getElem?_map] at hp
        obtain ⟨z, hz', rfl⟩ := Option.map_eq_some_iff.1 hp
        exact .im _ _ ((this.2 j z q hz' hq).kept hi)
/-- **A call by its contract.** 'σa': the objects that may be read as trees meanwhile. -/
theorem CallG.by {g d : Nat} {xs ys : List TV} {σ0 σ1 σa : Sto} {r : TV} {K : St → Prop} {t : Tg K} {l : Lb} (hf : FnS P g σ0 ys σ1 r) (hsub : ∀ k o, get σ0 k = some o → get s.σ k = some o) (hl : l = .im ∧ pureT r = true ∧ pureS σ1 = true ∨ l = .no)
    (hσa : ∀ k o, get σa k = some o → get s.σ k = some o ∧ (get σ0 k).isSome = false ∧ l = .im) (ha : ArgsOk σa xs ys) (hki : keysIn σ0 σ1 r.keys = true) (hks : keysInS σ0 σ1 σ1 = true) (hfr : freshB s σ0 σ1 = true) (hnn : nnAll s σ0 = true) (hd : d < s.N)
    (hK : K ⟨s.N, (d, r) :: s.E, backS s.σ σ0 σ1⟩) : CallG P s g xs d K t := by
  intro β ω κ a w vs hr hv
  have hl' : l = .im ∨ l = .no := hl.imp (fun h => h.1) id
  obtain ⟨h1, h2, _⟩ := seen_ok hr.rs hl' hsub
  refine (hf w _ κ vs h1 h2 (ArgsOk.val hr.rs hsub hl' hσa ha hv)).mono fun e w' ⟨v, ωc, κc, he, ht, hS, hrv, hk⟩ => ?_
  exact ⟨v, he, _, hK, hr.back hsub hl ht hS hrv hk hki hks hfr hnn hd⟩
theorem backS_nil (σ : Sto) : backS σ [] [] = σ := rfl
def argT (σ : Sto) : TV → Option TV
  | .c x => (toIV σ x).map fun y => .c (.im y)
  | .ag cs => (toIVL σ cs).map fun ys => .ag (ys.map .im)
  | .tp _ => none
def argTs (σ : Sto) : List TV → Option (List TV)
  | [] => some []
  | x :: r => (argT σ x).bind fun y => (argTs σ r).map (y :: ·)
theorem argTs_ok : ∀ {xs ys : List TV}, argTs σ xs = some ys → ArgsOk σ xs ys
  | [], ys, h => by obtain rfl := Option.some.inj h; trivial
  | x :: r, ys, h => by
    simp only [argTs] at h
    obtain ⟨y, hy, h⟩ := Option.bind_eq_some_iff.1 h
    obtain ⟨zs, hz, rfl⟩ := Option.map_eq_some_iff.1 h
    refine ⟨.inr ?_, argTs_ok hz⟩
    cases x with
    | c x => obtain ⟨z, hz, rfl⟩ := Option.map_eq_some_iff.1 hy; exact ⟨z, hz, rfl⟩
    | ag cs => obtain ⟨z, hz, rfl⟩ := Option.map_eq_some_iff.1 hy; exact ⟨z, hz, rfl⟩
    | tp ts => cases hy
/-- A call that changes nothing that was there and returns scalars, or new objects alone. -/
theorem CallG.pure {g d : Nat} {xs ys : List TV} {σ1 : Sto} {r : TV} {K : St → Prop} {t : Tg K} (hf : FnS P g [] ys σ1 r) (ha : argTs s.σ xs = some ys) (hp : pureT r = true ∧ pureS σ1 = true) (hki : keysIn [] σ1 r.keys = true ∧ keysInS [] σ1 σ1 = true) (hfr : freshB s [] σ1 = true) (hd : d < s.N)
    (hK : K ⟨s.N, (d, r) :: s.E, σ1 ++ s.σ⟩) : CallG P s g xs d K t :=
  CallG.by (σ0 := []) (l := .im) hf (fun k o h => by rw [get_nil] at h; cases h) (.inl ⟨rfl, hp.1, hp.2⟩) (fun k o h => ⟨h, rfl, rfl⟩) (argTs_ok ha) hki.1 hki.2 hfr rfl hd hK
/-- A call that changes nothing that was there; what is handed over is all's. -/
theorem CallG.val {g d : Nat} {xs ys : List TV} {σ1 : Sto} {r : TV} {K : St → Prop} {t : Tg K} (hf : FnS P g [] ys σ1 r) (ha : argTs [] xs = some ys) (hki : keysIn [] σ1 r.keys = true ∧ keysInS [] σ1 σ1 = true) (hfr : freshB s [] σ1 = true) (hd : d < s.N)
    (hK : K ⟨s.N, (d, r) :: s.E, σ1 ++ s.σ⟩) : CallG P s g xs d K t :=
  CallG.by (σ0 := []) (σa := []) (l := .no) hf (fun k o h => by rw [get_nil] at h; cases h) (.inr rfl) (fun k o h => by rw [get_nil] at h; cases h) (argTs_ok ha) hki.1 hki.2 hfr rfl hd hK
/-- What is handed over is made all's first. -/
theorem CallG.frz1 {g d : Nat} {xs : List TV} {K : St → Prop} {t : Tg K} (k : Nat) {o : Ob} (hk : get s.σ k = some o) (h : CallG P (s.frz k) g (xs.map (TV.frz k o)) d K t) : CallG P s g xs d K t := by
  intro β ω κ a w vs hr hv
  have e : s.frz k = ⟨s.N, frzE k o s.E, frzS k o s.σ⟩ := by unfold St.frz; rw [hk]
  have h1 : ∃ ω', Rel β ω' κ (s.frz k) a w ∧ ∀ x v, RT w ω κ s.σ x v → RT w ω' κ (s.frz k).σ (TV.frz k o x) v := by
    obtain ⟨ω', hr'⟩ := hr.frz k
    refine ⟨imL ω k, ?_, fun x v hx => by rw [e]; exact hx.frz hr.rs hk⟩
    have hob := hr.rs.ob k o hk
    rw [e]
    refine ⟨hr.turn.trans ⟨rfl, rfl, rfl, Nat.le_refl _, fun _ _ _ => rfl, fun b hb => imL_im ω k b hb, fun b _ hb => by unfold imL; rw [if_neg (by rw [hb]; simp)]; exact hb⟩, fun j hj => (hr.keys j hj).trans ⟨fun _ => rfl, fun o' m' ho hm => ?_⟩, hr.odd, hr.defers, hr.size, fun t x hx => ?_, ⟨fun j o' ho => ?_, fun b hb => hr.rs.dom b fun hb' => hb (by unfold imL; rw [if_neg (by rw [hb']; simp)]; exact hb')⟩⟩
    · rw [get_frzS] at ho
      split at ho
      · cases ho
      · obtain ⟨p, hp, rfl⟩ := Option.map_eq_some_iff.1 ho
        rw [frzO_len] at hm
        exact ⟨p, m', hp, hm, Nat.le_refl _, fun _ => rfl⟩
    · simp only at hx
      rw [get_frzE] at hx
      obtain ⟨y, hy, rfl⟩ := Option.map_eq_some_iff.1 hx
      exact ⟨(hr.env t y hy).1, (hr.env t y hy).2.frz hr.rs hk⟩
    · simp only at ho
      rw [get_frzS] at ho
      split at ho
      · cases ho
      · rename_i hjk
        obtain ⟨p, hp, rfl⟩ := Option.map_eq_some_iff.1 ho
        have hob := hr.rs.ob j p hp
        cases p with
        | box t cs =>
          obtain ⟨b, vs, h1, h2, h3, h4, h5, h6⟩ := hob
          refine ⟨b, vs, h1, imL_j ω hjk h2, h3, ⟨by simp [h4.1], fun i y z hy hz => ?_⟩, h5, anyNL_of fun x hx => ?_⟩
          · rw [List.getElem?_map] at hy
            obtain ⟨y', hy', rfl⟩ := Option.map_eq_some_iff.1 hy
            exact RC.frz hr.rs hk (h4.2 i y' z hy' hz)
          · obtain ⟨y, hy, rfl⟩ := List.mem_map.1 hx
            exact frz_anyN k o y (anyNL_mem h6 y hy)
        | vec t e n cs own => exact ObOk.step (o := .vec t e n cs own) hob rfl (fun b hb => ⟨imL_j ω hjk hb, rfl⟩) (fun b hb => ⟨imL_im ω k b hb, rfl⟩) fun _ _ h => by cases h
        | row n cs => exact ObOk.step (o := .row n cs) hob rfl (fun b hb => ⟨imL_j ω hjk hb, rfl⟩) (fun b hb => ⟨imL_im ω k b hb, rfl⟩) fun _ _ h => by cases h
        | map dd ff => exact ObOk.step (o := .map dd ff) hob rfl (fun b hb => ⟨imL_j ω hjk hb, rfl⟩) (fun b hb => ⟨imL_im ω k b hb, rfl⟩) fun _ _ h => by cases h
        | gl dd ff => exact ObOk.step (o := .gl dd ff) hob rfl (fun b hb => ⟨imL_j ω hjk hb, rfl⟩) (fun b hb => ⟨imL_im ω k b hb, rfl⟩) fun _ _ h => by cases h
  obtain ⟨ω', h2, h3⟩ := h1
  refine h β ω' κ a w vs h2 ⟨by simp [hv.1], fun j x v hx hv' => ?_⟩
  rw [List.getElem?_map] at hx
  obtain ⟨y, hy, rfl⟩ := Option.map_eq_some_iff.1 hx
  exact h3 y v (hv.2 j y v hy hv')
end
end Go.VC
