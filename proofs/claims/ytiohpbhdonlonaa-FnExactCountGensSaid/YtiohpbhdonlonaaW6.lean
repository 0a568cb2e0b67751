/- Rows: appends, stores, new ones; what moves into them. -/
import Derived.Test.YtiohpbhdonlonaaW5
set_option linter.unusedSimpArgs false
set_option linter.unusedVariables false
namespace Go.VC
open Go Go.RowKit
section
variable {β : Base} {w w' : World} {ω ω' : Lab} {κ κ' : Nat → Value} {σ σ' : Sto} {E : Env} {a : Act} {s : St} {P : Program}

/-- A slice type's element type, its cells, its bytes, its zero value. -/
def apOf (P : Program) (t : TypeId) : Option (TypeId × Nat × Nat × List Value) :=
  match P.underlying t with
  | some (.slice e) => match P.info? e with
    | some i => match i.zero with
      | some z => if z.cells.size = i.size ∧ 0 < i.size ∧ z.cells.all (·.oneCell') then some (e, i.size, i.bytes, z.cells.toList) else none
      | none => none
    | none => none
  | _ => none
theorem apOf_some {t e : TypeId} {sz by_ : Nat} {zs : List Value} (h : apOf P t = some (e, sz, by_, zs)) :
    ∃ i z, P.underlying t = some (.slice e) ∧ P.info? e = some i ∧ i.zero = some z ∧ z.cells.size = i.size ∧ 0 < i.size ∧ i.size = sz ∧ i.bytes = by_ ∧ z.cells.toList = zs ∧ ∀ u ∈ zs, u.oneCell' = true := by
  unfold apOf at h
  split at h
  · rename_i e' hu
    split at h
    · rename_i i hi
      split at h
      · rename_i z hz
        split at h
        · rename_i hc
          obtain ⟨h1, h2, h3⟩ := hc
          injection h with h
          injection h with q1 h
          injection h with q2 h
          injection h with q3 q4
          subst q1; subst q2; subst q3; subst q4
          exact ⟨i, z, hu, hi, hz, h1, h2, rfl, rfl, rfl, fun u hu => Array.all_eq_true_iff_forall_mem.1 h3 u (by simpa using hu)⟩
        · cases h
      · cases h
    · cases h
  · cases h

theorem append_blk {P : Program} {t ty e : TypeId} {i : TypeInfo} {z : Value} (ht : P.underlying t = some (.slice e)) (hi : P.info? e = some i) (hz : i.zero = some z) (hzs : z.cells.size = i.size) (hsz : 0 < i.size)
    {v : Value} {n : Nat} {xs : List Value} (hown : w.ownsRow 0 e i.size v n xs) (ad : Option Addr) (m c : Nat) (news : List Value) (hnil : ad = none → m = 0 ∧ c = 0) (hl : news.length = m * i.size)
    (hnews : ∀ b, ad = some b → ∀ j u, news[j]? = some u → w.cell? (b.add j) = some u) (h1 : ∀ u ∈ news, u.oneCell' = true)
    (h63 : n + m ≤ maxLen) (hbytes : (n + m) * i.bytes ≤ 140737488355328) :
    ∃ v' w', (Builtin.append_ #[t, t] ty #[v, .slice ad m c]).run P w = .ok v' w' ∧ w'.ownsRow 0 e i.size v' (n + m) (xs ++ news) ∧ w.grownBy w' v.ownBlock ∧
      (v' = v ∧ m = 0 ∨ 0 < m) ∧ (∀ b, v'.ownBlock = some b → v.ownBlock = some b ∨ w.heap.size ≤ b) := by
  have key : ∀ v' w', (Builtin.append_ #[t, t] ty #[v, .slice ad m c]).run P w = .ok v' w' → (m = 0 → v' = v) → (∀ b, v'.ownBlock = some b → v.ownBlock = some b ∨ w.heap.size ≤ b) → ∀ v'' w'', (Builtin.append_ #[t, t] ty #[v, .slice ad m c]).run P w = .ok v'' w'' →
      w''.ownsRow 0 e i.size v'' (n + m) (xs ++ news) → w.grownBy w'' v.ownBlock → ∃ v' w', (Builtin.append_ #[t, t] ty #[v, .slice ad m c]).run P w = .ok v' w' ∧ w'.ownsRow 0 e i.size v' (n + m) (xs ++ news) ∧ w.grownBy w' v.ownBlock ∧
      (v' = v ∧ m = 0 ∨ 0 < m) ∧ (∀ b, v'.ownBlock = some b → v.ownBlock = some b ∨ w.heap.size ≤ b) := by
    intro v' w' hr hm hb v'' w'' hr' ho hg
    rw [hr] at hr'
    injection hr' with q1 q2
    subst q1; subst q2
    refine ⟨v', w', hr, ho, hg, ?_, hb⟩
    by_cases h0 : m = 0
    · exact .inl ⟨hm h0, h0⟩
    · exact .inr (by omega)
  have hsmall : n + m ≤ 9223372036854775807 := by simp only [maxLen] at h63; omega
  cases ad with
  | none =>
    obtain ⟨rfl, rfl⟩ := hnil rfl
    have hn0 : news = [] := List.eq_nil_of_length_eq_zero (by simpa using hl)
    subst hn0
    refine ⟨v, w, ?_, by simpa using hown, World.grownBy.refl w _, .inl ⟨rfl, rfl⟩, fun b hb => .inl hb⟩
    rcases hown.2 with ⟨rfl, hn⟩ | ⟨g, cap, cur, rfl, hbg, hg, hnc, hcm, hcs, htake⟩
    · simp [Builtin.append_, run_underlying ht, sizeOf, typeInfo, hi, Builtin.lenOf, Builtin.firstCells]
    · simp [Builtin.append_, run_underlying ht, sizeOf, typeInfo, hi, Builtin.lenOf, Builtin.firstCells, hnc, storeCells]
  | some ad =>
    have hnw := hnews ad rfl
    obtain ⟨v'', w'', hr'', ho, hg, _⟩ := run_append_own (P := P) (w := w) 0 t ty e i z i.size i.bytes ht hi hz rfl rfl hzs hsz v n xs hown ad m c news hl hnw h1 h63 hbytes (Nat.zero_le _)
    rcases hown.2 with ⟨rfl, hn⟩ | ⟨g, cap, cur, rfl, hbg, hgc, hnc, hcm, hcs, htake⟩
    · by_cases hm : m = 0
      · subst hm
        have hn0 : news = [] := List.eq_nil_of_length_eq_zero (by simpa using hl)
        subst hn0
        refine key (.slice none 0 0) w ?_ (fun _ => rfl) (fun b hb => .inl hb) v'' w'' hr'' ho hg
        simp [Builtin.append_, run_underlying ht, sizeOf, typeInfo, hi, Builtin.lenOf, Builtin.firstCells, loadCells, loadCellsFrom]
      · have hr := run_append_nil (P := P) (ty := ty) w t e i z ht hi hz ad m c news hl hnw (by omega) (by omega) (by have hb := hbytes; rw [hn] at hb; simp only [Nat.zero_add] at hb; omega)
        exact key _ _ hr (fun h => absurd h hm) (fun b hb => .inr (by simp [Value.ownBlock] at hb; omega)) v'' w'' hr'' ho hg
    · by_cases hroom : n + m ≤ cap
      · have hfit : n * i.size + news.length ≤ cur.size := by rw [hl, hcs, ← Nat.add_mul]; exact Nat.mul_le_mul_right _ hroom
        have hr := run_append_room (P := P) (ty := ty) w t e i ht hi g n cap cur hgc ad m c news hl hnw h1 hroom hfit
        refine key _ _ hr (fun h => by subst h; rfl) (fun b hb => .inl (by simpa [Value.ownBlock] using hb)) v'' w'' hr'' ho hg
      · have holds : ∀ j u, xs[j]? = some u → w.cell? ((⟨g, 0, none⟩ : Addr).add j) = some u := hown.cells (g := g) rfl
        have hr := run_append_grow (P := P) (ty := ty) w t e i z ht hi hz ⟨g, 0, none⟩ n cap xs hown.1 holds ad m c news hl hnw (by omega) (by omega) (growslice_fits (by omega) hbytes)
        exact key _ _ hr (fun h => by omega) (fun b hb => .inr (by simp [Value.ownBlock] at hb; omega)) v'' w'' hr'' ho hg

theorem rowOk_of {t : TypeId} {e n : Nat} {v : Value} {xs : List Value} (h : w.ownsRow 0 t e v n xs) : RowOk w t e v n xs := by
  refine ⟨h.1, ?_⟩
  rcases h.2 with ⟨rfl, h0⟩ | ⟨g, cap, cur, rfl, _, hg, hn, hm, hs, ht⟩
  · exact .inl ⟨h0, none, rfl⟩
  · rcases Nat.eq_zero_or_pos cap with rfl | hc
    · obtain rfl : n = 0 := by omega
      exact .inl ⟨rfl, _, rfl⟩
    · exact .inr ⟨g, cap, cur, rfl, hc, hg, hn, hm, hs, ht⟩
theorem rowB_own {v : Value} {b : Nat} (h : rowB v = some b) : v.ownBlock = some b := by
  unfold rowB at h
  split at h
  · exact h
  · cases h
/-- An append that must make a new row. -/
theorem append_fresh {P : Program} {t ty e : TypeId} {i : TypeInfo} {z : Value} (ht : P.underlying t = some (.slice e)) (hi : P.info? e = some i) (hz : i.zero = some z) (hzs : z.cells.size = i.size) (hsz : 0 < i.size)
    {adx : Option Addr} {n c0 : Nat} {us : List Value} (hul : us.length = n * i.size) (hux : ∀ b, adx = some b → ∀ j u, us[j]? = some u → w.cell? (b.add j) = some u) (hun : adx = none → n = 0 ∧ c0 = 0) (hnc : n ≤ c0)
    (ad : Option Addr) (m c : Nat) (news : List Value) (hnil : ad = none → m = 0 ∧ c = 0) (hl : news.length = m * i.size)
    (hnews : ∀ b, ad = some b → ∀ j u, news[j]? = some u → w.cell? (b.add j) = some u) (hcap : c0 < n + m)
    (h63 : n + m ≤ maxLen) (hbytes : (n + m) * i.bytes ≤ 140737488355328) :
    ∃ w' cap', (Builtin.append_ #[t, t] ty #[.slice adx n c0, .slice ad m c]).run P w = .ok (.slice (some ⟨w.heap.size, 0, none⟩) (n + m) cap') w' ∧
      RowOk w' e i.size (.slice (some ⟨w.heap.size, 0, none⟩) (n + m) cap') (n + m) (us ++ news) ∧ w.grownBy w' none := by
  have hm0 : 0 < m := by omega
  cases ad with
  | none => have := (hnil rfl).1; omega
  | some ad =>
    have hown : ∀ old, old < n + m → ∀ w', w' = (w.drew.alloc (.cells (us.toArray ++ news.toArray ++ Builtin.zeroCells z.cells (grownCap w (n + m) old e - (n + m))) e)) →
        RowOk w' e i.size (.slice (some ⟨w.heap.size, 0, none⟩) (n + m) (grownCap w (n + m) old e)) (n + m) (us ++ news) ∧ w.grownBy w' none := by
      intro old ho w' hw'
      subst hw'
      have hge := grownCap_ge w (n + m) old e
      have hcm : grownCap w (n + m) old e ≤ maxLen := grownCap_le_maxLen w (n + m) old e h63
      have hlen : (us ++ news).length = (n + m) * i.size := by rw [List.length_append, hul, hl, Nat.add_mul]
      refine ⟨⟨hlen, .inr ⟨w.heap.size, _, _, rfl, by omega, heap_alloc_new w.drew _, hge, hcm, ?_, ?_⟩⟩, ⟨rfl, rfl, rfl, by simp, fun k hk _ => heap_alloc_old w.drew _ (by simpa using hk)⟩⟩
      · simp only [Array.size_append, List.size_toArray, size_zeroCells, hzs]
        rw [hul, hl, ← Nat.add_mul, ← Nat.add_mul]
        congr 1
        omega
      · simp only [Array.toList_append, List.append_assoc]
        rw [← List.append_assoc, ← hlen]
        exact List.take_left
    have hsm : n + m ≤ 9223372036854775807 := by simp only [maxLen] at h63; omega
    cases adx with
    | none =>
      obtain ⟨rfl, rfl⟩ := hun rfl
      have hus : us = [] := List.eq_nil_of_length_eq_zero (by simpa using hul)
      subst hus
      have hr0 := run_append_nil (P := P) (ty := ty) w t e i z ht hi hz ad m c news hl (hnews ad rfl) hm0 (by omega) (by rw [Nat.zero_add] at hbytes; omega)
      have := hown 0 (by omega) _ rfl
      simp only [Nat.zero_add, List.nil_append, Array.empty_append] at this ⊢
      exact ⟨_, _, hr0, this.1, this.2⟩
    | some adx =>
      have hr0 := run_append_grow (P := P) (ty := ty) w t e i z ht hi hz adx n c0 us hul (hux adx rfl) ad m c news hl (hnews ad rfl) hcap (by omega) (growslice_fits (by omega) hbytes)
      have := hown c0 hcap _ rfl
      exact ⟨_, _, hr0, this.1, this.2⟩
/-- An append to a row. -/
theorem append_row {P : Program} {t ty e : TypeId} {i : TypeInfo} {z : Value} (ht : P.underlying t = some (.slice e)) (hi : P.info? e = some i) (hz : i.zero = some z) (hzs : z.cells.size = i.size) (hsz : 0 < i.size)
    {v : Value} {n : Nat} {xs : List Value} (hown : RowOk w e i.size v n xs) (ad : Option Addr) (m c : Nat) (news : List Value) (hnil : ad = none → m = 0 ∧ c = 0) (hl : news.length = m * i.size)
    (hnews : ∀ b, ad = some b → ∀ j u, news[j]? = some u → w.cell? (b.add j) = some u) (h1 : ∀ u ∈ news, u.oneCell' = true)
    (h63 : n + m ≤ maxLen) (hbytes : (n + m) * i.bytes ≤ 140737488355328) :
    ∃ v' w', (Builtin.append_ #[t, t] ty #[v, .slice ad m c]).run P w = .ok v' w' ∧ RowOk w' e i.size v' (n + m) (xs ++ news) ∧ w.grownBy w' (rowB v) ∧
      (v' = v ∧ m = 0 ∨ 0 < m) ∧ (∀ b, rowB v' = some b → rowB v = some b ∨ w.heap.size ≤ b) := by
  rcases hown.2 with ⟨rfl, adx, rfl⟩ | ⟨g, cap, cur, rfl, hc, hg, hn, hm, hs, htk⟩
  · have hx : xs = [] := List.eq_nil_of_length_eq_zero (by rw [hown.1]; simp)
    subst hx
    rcases Nat.eq_zero_or_pos m with rfl | hm0
    · have hn0 : news = [] := List.eq_nil_of_length_eq_zero (by simpa using hl)
      subst hn0
      refine ⟨.slice adx 0 0, w, ?_, by simpa using hown, World.grownBy.refl w _, .inl ⟨rfl, rfl⟩, fun b hb => .inl hb⟩
      have hfc : (Builtin.firstCells i.size 0 (.slice ad 0 c)).run P w = .ok #[] w := by
        cases ad <;> simp [Builtin.firstCells, loadCells, loadCellsFrom]
      cases adx with
      | none => simp [Builtin.append_, run_underlying ht, sizeOf, typeInfo, hi, Builtin.lenOf, hfc]
      | some b => simp [Builtin.append_, run_underlying ht, sizeOf, typeInfo, hi, Builtin.lenOf, hfc, storeCells]
    · obtain ⟨w', cap', h2, h3, h4⟩ := append_fresh (P := P) (ty := ty) ht hi hz hzs hsz (adx := adx) (n := 0) (c0 := 0) (us := []) (by simp) (fun b _ j u hu => by simp at hu) (fun _ => ⟨rfl, rfl⟩) (Nat.le_refl _) ad m c news hnil hl hnews (by omega) h63 hbytes
      refine ⟨_, w', h2, h3, ?_, .inr hm0, fun b hb => ?_⟩
      · have : rowB (.slice adx 0 0) = none := by cases adx <;> rfl
        rw [this]; exact h4
      · have := rowB_own hb
        simp [Value.ownBlock] at this
        exact .inr (by omega)
  · have hown' : w.ownsRow 0 e i.size (.slice (some ⟨g, 0, none⟩) n cap) n xs := ⟨hown.1, .inr ⟨g, cap, cur, rfl, Nat.zero_le _, hg, hn, hm, hs, htk⟩⟩
    obtain ⟨v', w', h2, h3, h4, h5, h6⟩ := append_blk (P := P) (ty := ty) ht hi hz hzs hsz hown' ad m c news hnil hl hnews h1 h63 hbytes
    refine ⟨v', w', h2, rowOk_of h3, by rw [rowB_some hc]; exact h4, h5, fun b hb => ?_⟩
    rcases h6 b (rowB_own hb) with h | h
    · left; rw [rowB_some hc]; simpa [Value.ownBlock] using h
    · exact .inr h

/-! What moves into a row. -/
/-- The blocks of 'ks' go to k. -/
def relab (ω : Lab) (ks : List Nat) (k : Nat) : Lab := fun b => match ω b with
  | .ob j => if j ∈ ks then .ob k else .ob j
  | l => l
theorem relab_nil (ω : Lab) (k : Nat) : relab ω [] k = ω := by
  funext b
  unfold relab
  cases ω b <;> simp
theorem relab_im {ω : Lab} {ks : List Nat} {k b : Nat} (h : ω b = .im) : relab ω ks k b = .im := by unfold relab; rw [h]
theorem relab_no {ω : Lab} {ks : List Nat} {k b : Nat} (h : ω b = .no) : relab ω ks k b = .no := by unfold relab; rw [h]
theorem relab_no' {ω : Lab} {ks : List Nat} {k b : Nat} (h : relab ω ks k b ≠ .no) : ω b ≠ .no := fun e => h (relab_no e)
theorem relab_k {ω : Lab} {ks : List Nat} {k b : Nat} (h : ω b = .ob k) : relab ω ks k b = .ob k := by unfold relab; rw [h]; simp
theorem relab_in {ω : Lab} {ks : List Nat} {k j b : Nat} (h : ω b = .ob j) (hj : j ∈ ks) : relab ω ks k b = .ob k := by unfold relab; rw [h]; simp [hj]
theorem relab_out {ω : Lab} {ks : List Nat} {k j b : Nat} (h : ω b = .ob j) (hj : j ∉ ks) : relab ω ks k b = .ob j := by unfold relab; rw [h]; simp [hj]
def delL (σ : Sto) : List Nat → Sto
  | [] => σ
  | k :: r => delL (del σ k) r
theorem get_delL (ks : List Nat) : ∀ (σ : Sto) (j : Nat), get (delL σ ks) j = if j ∈ ks then none else get σ j := by
  induction ks with
  | nil => intro σ j; simp [delL]
  | cons k r ih =>
    intro σ j
    rw [delL, ih, get_del]
    by_cases h1 : j = k
    · simp [h1]
    · simp [h1]
/-- The trees 'ys' are the objects 'ks' own, or shared by all. -/
def Src (w : World) (ω : Lab) (ks : List Nat) (own : Bool) (ys : List IV) (vs : List Value) : Prop :=
  if own then ys.length = vs.length ∧ ∃ T : Nat → Nat → Prop, (∀ j x v, ys[j]? = some x → vs[j]? = some v → RO w x v (T j)) ∧ (∀ i j b, i < ys.length → j < ys.length → i ≠ j → T i b → ¬ T j b) ∧
    ∀ j b, j < ys.length → T j b → ∃ i ∈ ks, ω b = .ob i
  else All2 (RI w ω) ys vs
theorem Src.len {ks : List Nat} {own : Bool} {ys : List IV} {vs : List Value} (h : Src w ω ks own ys vs) : ys.length = vs.length := by
  unfold Src at h
  split at h
  · exact h.1
  · exact h.1
theorem Src.one {ks : List Nat} {own : Bool} {ys : List IV} {vs : List Value} (h : Src w ω ks own ys vs) : ∀ u ∈ vs, u.oneCell' = true := fun u hu => by
  obtain ⟨j, hj⟩ := List.getElem?_of_mem hu
  have hl : j < ys.length := by rw [h.len]; exact (List.getElem?_eq_some_iff.1 hj).1
  unfold Src at h
  split at h
  · obtain ⟨_, T, h1, _⟩ := h
    exact (h1 j ys[j] u (by simp [hl]) hj).one
  · exact (h.2 j ys[j] u (by simp [hl]) hj).one
theorem CellsOk.len {k : Nat} {g : Option Nat} {own : Bool} {cs : List IV} {xs : List Value} (h : CellsOk w ω k g own cs xs) : cs.length = xs.length := by
  unfold CellsOk at h
  split at h
  · exact h.1
  · exact h.1
/-- Trees are set into a row's cells. -/
theorem CellsOk.set {k off : Nat} {g : Option Nat} {own : Bool} {cs ys : List IV} {xs vs : List Value} {ks : List Nat} (h : CellsOk w ω k g own cs xs) (hs : Src w ω ks own ys vs) (hk : k ∉ ks) (hg : ∀ b, g = some b → ω b = .ob k)
    (hw : ∀ b, ω b ≠ .no → some b ≠ g → w'.heap[b]? = w.heap[b]?) (hl : off + ys.length ≤ cs.length) : CellsOk w' (relab ω ks k) k g own (setL cs off ys) (setL xs off vs) := by
  have hcl := h.len
  have hsl := hs.len
  unfold CellsOk Src at *
  cases own with
  | true =>
    simp only [if_true] at *
    obtain ⟨_, Ss, h1, h2, h3⟩ := h
    obtain ⟨_, T, h4, h5, h6⟩ := hs
    have hT : ∀ j b, j < ys.length → T j b → some b ≠ g := fun j b hj hb e => by
      obtain ⟨i, hi, hib⟩ := h6 j b hj hb
      have := hg b e.symm
      rw [hib] at this
      injection this with this
      exact hk (this ▸ hi)
    refine ⟨by rw [setL_len, setL_len, hcl], fun j b => if off ≤ j ∧ j < off + ys.length then T (j - off) b else Ss j b, fun j x v hx hv => ?_, fun i j b hi hj hij hb hb' => ?_, fun j b hj hb => ?_⟩
    · rw [setL_get hl] at hx
      rw [setL_get (by omega)] at hv
      by_cases hc : off ≤ j ∧ j < off + ys.length
      · rw [if_pos hc] at hx
        rw [if_pos (by omega)] at hv
        have hj := (List.getElem?_eq_some_iff.1 hx).1
        refine ((h4 (j - off) x v hx hv).kept (w' := w') fun b hb => ?_).congr fun b => by simp [hc]
        obtain ⟨i, hi, hib⟩ := h6 _ b hj hb
        exact hw b (by rw [hib]; simp) (hT _ b hj hb)
      · rw [if_neg hc] at hx
        rw [if_neg (by omega)] at hv
        have hj := (List.getElem?_eq_some_iff.1 hx).1
        refine ((h1 j x v hx hv).kept (w' := w') fun b hb => ?_).congr fun b => by simp [hc]
        exact hw b (by rw [(h3 j b hj hb).1]; simp) (h3 j b hj hb).2
    · rw [setL_len] at hi hj
      by_cases hc : off ≤ i ∧ i < off + ys.length <;> by_cases hc' : off ≤ j ∧ j < off + ys.length <;> simp only [hc, hc', and_self, if_true, if_false] at hb hb'
      · exact h5 _ _ b (by omega) (by omega) (by omega) hb hb'
      · obtain ⟨q, hq, hqb⟩ := h6 _ b (by omega) hb
        have := (h3 j b hj hb').1
        rw [hqb] at this; injection this with this; exact hk (this ▸ hq)
      · obtain ⟨q, hq, hqb⟩ := h6 _ b (by omega) hb'
        have := (h3 i b hi hb).1
        rw [hqb] at this; injection this with this; exact hk (this ▸ hq)
      · exact h2 i j b hi hj hij hb hb'
    · rw [setL_len] at hj
      by_cases hc : off ≤ j ∧ j < off + ys.length <;> simp only [hc, and_self, if_true, if_false] at hb
      · obtain ⟨q, hq, hqb⟩ := h6 _ b (by omega) hb
        exact ⟨relab_in hqb hq, hT _ b (by omega) hb⟩
      · exact ⟨relab_k (h3 j b hj hb).1, (h3 j b hj hb).2⟩
  | false =>
    simp only [Bool.false_eq_true, if_false] at *
    have hkept : ∀ x v, RI w ω x v → RI w' (relab ω ks k) x v := fun x v hr => hr.kept fun b hb => ⟨relab_im hb, hw b (by rw [hb]; simp) fun e => by rw [hg b e.symm] at hb; cases hb⟩
    exact (hs.imp fun x y _ hxy => hkept x y hxy).setL off (h.imp fun x y _ hxy => hkept x y hxy)
/-- Trees are put behind a row's cells. -/
theorem CellsOk.add {k : Nat} {g g' : Option Nat} {own : Bool} {cs ys : List IV} {xs vs : List Value} {ks : List Nat} (h : CellsOk w ω k g own cs xs) (hs : Src w ω ks own ys vs) (hk : k ∉ ks) (hg : ∀ b, g = some b → ω b = .ob k) (hg' : ∀ b, g' = some b → g = some b ∨ w.heap.size ≤ b)
    (hw : ∀ b, ω b ≠ .no → some b ≠ g → w'.heap[b]? = w.heap[b]?) (hdom : ∀ b, ω b ≠ .no → b < w.heap.size) {ω' : Lab} (hω : ∀ b, b < w.heap.size → ω' b = relab ω ks k b) : CellsOk w' ω' k g' own (cs ++ ys) (xs ++ vs) := by
  have hcl := h.len
  have hsl := hs.len
  have hne : ∀ b, ω b ≠ .no → some b ≠ g → some b ≠ g' := fun b hb h1 h2 => by
    rcases hg' b h2.symm with h | h
    · exact h1 h.symm
    · have := hdom b hb; omega
  unfold CellsOk Src at *
  cases own with
  | true =>
    simp only [if_true] at *
    obtain ⟨_, Ss, h1, h2, h3⟩ := h
    obtain ⟨_, T, h4, h5, h6⟩ := hs
    have hT : ∀ j b, j < ys.length → T j b → some b ≠ g := fun j b hj hb e => by
      obtain ⟨i, hi, hib⟩ := h6 j b hj hb
      have := hg b e.symm
      rw [hib] at this
      injection this with this
      exact hk (this ▸ hi)
    refine ⟨by simp [hcl, hsl], fun j b => if j < cs.length then Ss j b else T (j - cs.length) b, fun j x v hx hv => ?_, fun i j b hi hj hij hb hb' => ?_, fun j b hj hb => ?_⟩
    · by_cases hc : j < cs.length
      · rw [List.getElem?_append_left hc] at hx
        rw [List.getElem?_append_left (by omega)] at hv
        refine ((h1 j x v hx hv).kept (w' := w') fun b hb => ?_).congr fun b => by simp [hc]
        exact hw b (by rw [(h3 j b hc hb).1]; simp) (h3 j b hc hb).2
      · rw [List.getElem?_append_right (by omega)] at hx
        rw [List.getElem?_append_right (by omega), ← hcl] at hv
        have hj := (List.getElem?_eq_some_iff.1 hx).1
        refine ((h4 _ x v hx hv).kept (w' := w') fun b hb => ?_).congr fun b => by simp [hc]
        obtain ⟨i, hi, hib⟩ := h6 _ b hj hb
        exact hw b (by rw [hib]; simp) (hT _ b hj hb)
    · rw [List.length_append] at hi hj
      by_cases hc : i < cs.length <;> by_cases hc' : j < cs.length <;> simp only [hc, hc', if_true, if_false] at hb hb'
      · exact h2 i j b hc hc' hij hb hb'
      · obtain ⟨q, hq, hqb⟩ := h6 _ b (by omega) hb'
        have := (h3 i b hc hb).1
        rw [hqb] at this; injection this with this; exact hk (this ▸ hq)
      · obtain ⟨q, hq, hqb⟩ := h6 _ b (by omega) hb
        have := (h3 j b hc' hb').1
        rw [hqb] at this; injection this with this; exact hk (this ▸ hq)
      · exact h5 _ _ b (by omega) (by omega) (by omega) hb hb'
    · rw [List.length_append] at hj
      by_cases hc : j < cs.length <;> simp only [hc, if_true, if_false] at hb
      · have h7 := (h3 j b hc hb).1
        have h8 : ω b ≠ .no := by rw [h7]; simp
        exact ⟨by rw [hω b (hdom b h8)]; exact relab_k h7, hne b h8 (h3 j b hc hb).2⟩
      · obtain ⟨q, hq, hqb⟩ := h6 _ b (by omega) hb
        have h8 : ω b ≠ .no := by rw [hqb]; simp
        exact ⟨by rw [hω b (hdom b h8)]; exact relab_in hqb hq, hne b h8 (hT _ b (by omega) hb)⟩
  | false =>
    simp only [Bool.false_eq_true, if_false] at *
    have hkept : ∀ x v, RI w ω x v → RI w' ω' x v := fun x v hr => hr.kept fun b hb => ⟨by rw [hω b (hdom b (by rw [hb]; simp))]; exact relab_im hb, hw b (by rw [hb]; simp) fun e => by rw [hg b e.symm] at hb; cases hb⟩
    exact (h.imp fun x y _ hxy => hkept x y hxy).append (hs.imp fun x y _ hxy => hkept x y hxy)
end
end Go.VC
