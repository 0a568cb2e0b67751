/- Keys of what is handed over; calls that write what stands in an own row's cells: no statement of a program. -/
import Derived.Test.YtiohpbhdonlonaaW22
set_option linter.unusedSimpArgs false
set_option linter.unusedVariables false
namespace Go.VC
open Go Go.RowKit
section
variable {β : Base} {w w' : World} {ω ω' : Lab} {κ κ' : Nat → Value} {σ σ' : Sto} {P : Program} {s : St} {a : Act}
mutual
theorem Cell.ren_ren {f g : Nat → Nat} (hg : ∀ k, g (f k) = k) : ∀ c : Cell, (c.ren f).ren g = c
  | .rf k o => by simp [Cell.ren, hg]
  | .rv k l o => by simp [Cell.ren, hg]
  | .os k n => by simp [Cell.ren, hg]
  | .ov k n o m => by simp [Cell.ren, hg]
  | .ns k j => by simp [Cell.ren, hg]
  | .mp k => by simp [Cell.ren, hg]
  | .fn f' caps => by simp [Cell.ren, renL_renL hg caps]
  | .im _ | .nl | .ik _ _ _ | .bad => rfl
theorem renL_renL {f g : Nat → Nat} (hg : ∀ k, g (f k) = k) : ∀ l : List Cell, renL g (renL f l) = l
  | [] => rfl
  | c :: r => by simp only [renL, Cell.ren_ren hg c, renL_renL hg r]
end
theorem TV.ren_ren {f g : Nat → Nat} (hg : ∀ k, g (f k) = k) (x : TV) : (x.ren f).ren g = x := by
  cases x with
  | c x => simp only [TV.ren, Cell.ren_ren hg]
  | ag cs => simp only [TV.ren, renL_renL hg]
  | tp ts =>
    simp only [TV.ren, List.map_map]
    congr 1
    conv => rhs; rw [← List.map_id ts]
    refine List.map_congr_left fun y _ => ?_
    cases y <;> simp [Cell.ren_ren hg, renL_renL hg]
theorem Ob.ren_ren {f g : Nat → Nat} (hg : ∀ k, g (f k) = k) (o : Ob) : (o.ren f).ren g = o := by
  cases o with
  | box t cs => simp only [Ob.ren, renL_renL hg]
  | vec => rfl
  | row => rfl
theorem renS_renS {f g : Nat → Nat} (hg : ∀ k, g (f k) = k) (σ : Sto) : renS g (renS f σ) = σ := by
  unfold renS
  rw [List.map_map]
  conv => rhs; rw [← List.map_id σ]
  refine List.map_congr_left fun p _ => ?_
  simp [hg, Ob.ren_ren hg]
/-- What is handed over may have any names. -/
theorem FnS.renA {g : FuncId} {ys : List TV} {σ0 σ1 : Sto} {r : TV} (p : Pm) (h : FnS P g σ0 ys σ1 r) : FnS P g (renS p.f σ0) (ys.map (TV.ren p.f)) (renS p.f σ1) (r.ren p.f) := by
  intro w ω κ vs hS hω hvs
  have hS0 : RS w (renW p.g ω) (fun k => κ (p.f k)) σ0 := by
    have := hS.ren (f := p.g) (g := p.f) p.fg
    rwa [renS_renS p.gf] at this
  have hv0 : All2 (RT w (renW p.g ω) (fun k => κ (p.f k)) σ0) ys vs := ⟨by simpa using hvs.1, fun j y v hy hv => by
    have := (hvs.2 j (y.ren p.f) v (by rw [List.getElem?_map, hy]; rfl) hv).ren (f := p.g) (g := p.f) p.fg
    rwa [renS_renS p.gf, TV.ren_ren p.gf] at this⟩
  have hob : ∀ b k, renW p.g ω b = .ob k → (get σ0 k).isSome = true := fun b k hb => by
    unfold renW at hb
    split at hb
    · rename_i k' hk'
      injection hb with hb
      subst hb
      have h1 := hω b k' hk'
      obtain ⟨o, ho⟩ := Option.isSome_iff_exists.1 h1
      obtain ⟨j, rfl⟩ := get_renS' ho
      rw [get_renS p.gf] at ho
      obtain ⟨q, hq, _⟩ := Option.map_eq_some_iff.1 ho
      rw [p.gf, hq]; rfl
    · rename_i l hl; exact (hl k hb).elim
  refine (h w (renW p.g ω) _ vs hS0 hob hv0).mono fun e w' ⟨v, ω', κ', he, ht, hS', hr, hk⟩ => ⟨v, renW p.f ω', fun k => κ' (p.g k), he, ⟨ht.os, ht.tape, ht.output, ht.size, fun b hb hno => ht.block b hb fun k hk' => ?_, fun b hb => renW_im (ht.im b (renW_im hb)), fun b hb hn => ?_⟩, hS'.ren p.gf, hr.ren p.gf, fun k hk' => ?_⟩
  · unfold renW at hk'
    split at hk'
    · rename_i k' hk''; exact hno k' hk''
    · rename_i l hl; exact hl k hk'
  · have h0 : renW p.g ω b = .no := by unfold renW; rw [hn]
    have := ht.no b hb h0
    unfold renW; rw [this]
  · obtain ⟨o, ho⟩ := Option.isSome_iff_exists.1 hk'
    obtain ⟨j, rfl⟩ := get_renS' ho
    rw [get_renS p.gf] at ho
    obtain ⟨q, hq, rfl⟩ := Option.map_eq_some_iff.1 ho
    have hkj := hk j (by rw [hq]; rfl)
    refine ⟨fun hs => by simp only [p.gf]; exact hkj.1 hs, fun o' m' ho' hm' => ?_⟩
    rw [get_renS p.gf] at ho'
    obtain ⟨q', hq', rfl⟩ := Option.map_eq_some_iff.1 ho'
    rw [ren_len] at hm'
    obtain ⟨o1, m1, g1, g2, g3, g4⟩ := hkj.2 q' m' hq' hm'
    exact ⟨o1.ren p.f, m1, by rw [get_renS p.gf, g1]; rfl, by rw [ren_len]; exact g2, g3, fun e => by simp only [p.gf]; exact g4 e⟩

/-! What stands in the cells of an own row is handed over. 'ns': (the callee's key, the cell). -/
def nestS (cs : List IV) : List (Nat × Nat) → Option Sto
  | [] => some []
  | (q, j) :: r => match cs[j]? with
    | some (.sl m ds) => (nestS cs r).map ((q, .row m ds) :: ·)
    | _ => none
def nestB (σ1 : Sto) : List (Nat × Nat) → List IV → Option (List IV)
  | [], cs => some cs
  | (q, j) :: r, cs => match get σ1 q, cs[j]? with
    | some (.row m ds), some (.sl m' _) => if m = m' then nestB σ1 r (cs.set j (.sl m ds)) else none
    | _, _ => none
def qOf : List (Nat × Nat) → Nat → Option Nat
  | [], _ => none
  | (q, j) :: r, i => if i = j then some q else qOf r i
/-- The keys differ, and the cells. -/
def nodN : List (Nat × Nat) → Bool
  | [] => true
  | (q, j) :: r => r.all (fun p => p.1 != q && p.2 != j) && nodN r
def nestC (k : Nat) (ns : List (Nat × Nat)) (cs : List IV) : Cell → Option Cell
  | .im x => some (.im x)
  | .ns k' j => if k' = k then (match qOf ns j, cs[j]? with
    | some q, some (.sl m _) => some (.os q m)
    | _, _ => none) else none
  | _ => none
def nestL (k : Nat) (ns : List (Nat × Nat)) (cs : List IV) : List Cell → Option (List Cell)
  | [] => some []
  | c :: r => (nestC k ns cs c).bind fun d => (nestL k ns cs r).map (d :: ·)
def nestT (k : Nat) (ns : List (Nat × Nat)) (cs : List IV) : List TV → Option (List TV)
  | [] => some []
  | .c x :: r => (nestC k ns cs x).bind fun d => (nestT k ns cs r).map (.c d :: ·)
  | .ag xs :: r => (nestL k ns cs xs).bind fun ds => (nestT k ns cs r).map (.ag ds :: ·)
  | .tp _ :: _ => none
theorem nod_key : ∀ {ns : List (Nat × Nat)}, nodN ns = true → ∀ {q j i : Nat}, (q, j) ∈ ns → (q, i) ∈ ns → j = i
  | [], _, _, _, _, h, _ => by cases h
  | (q0, j0) :: r, hn, q, j, i, h1, h2 => by
    simp only [nodN, Bool.and_eq_true, List.all_eq_true, bne_iff_ne, ne_eq] at hn
    rcases List.mem_cons.1 h1 with e1 | h1
    · rcases List.mem_cons.1 h2 with e2 | h2
      · injection e1 with _ e1; injection e2 with _ e2; rw [e1, e2]
      · injection e1 with e1 _; exact absurd e1 (hn.1 _ h2).1
    · rcases List.mem_cons.1 h2 with e2 | h2
      · injection e2 with e2 _; exact absurd e2 (hn.1 _ h1).1
      · exact nod_key hn.2 h1 h2
theorem nod_cell : ∀ {ns : List (Nat × Nat)}, nodN ns = true → ∀ {q p j : Nat}, (q, j) ∈ ns → (p, j) ∈ ns → q = p
  | [], _, _, _, _, h, _ => by cases h
  | (q0, j0) :: r, hn, q, p, j, h1, h2 => by
    simp only [nodN, Bool.and_eq_true, List.all_eq_true, bne_iff_ne, ne_eq] at hn
    rcases List.mem_cons.1 h1 with e1 | h1
    · rcases List.mem_cons.1 h2 with e2 | h2
      · injection e1 with e1 _; injection e2 with e2 _; rw [e1, e2]
      · injection e1 with _ e1; exact absurd e1 (hn.1 _ h2).2
    · rcases List.mem_cons.1 h2 with e2 | h2
      · injection e2 with _ e2; exact absurd e2 (hn.1 _ h1).2
      · exact nod_cell hn.2 h1 h2
theorem qOf_mem : ∀ {ns : List (Nat × Nat)} {j q : Nat}, qOf ns j = some q → (q, j) ∈ ns
  | [], _, _, h => by cases h
  | (q0, j0) :: r, j, q, h => by
    rw [qOf] at h
    split at h
    · rename_i e; obtain rfl := Option.some.inj h; subst e; exact List.mem_cons_self
    · exact List.mem_cons_of_mem _ (qOf_mem h)
theorem nestS_get {cs : List IV} : ∀ {ns : List (Nat × Nat)} {σ0 : Sto}, nestS cs ns = some σ0 → ∀ {q : Nat} {o : Ob}, get σ0 q = some o → ∃ j m ds, (q, j) ∈ ns ∧ cs[j]? = some (.sl m ds) ∧ o = .row m ds
  | [], σ0, h, q, o, hg => by obtain rfl := Option.some.inj h; cases hg
  | (q0, j0) :: r, σ0, h, q, o, hg => by
    simp only [nestS] at h
    split at h
    · rename_i m ds hj
      obtain ⟨σ1, h1, rfl⟩ := Option.map_eq_some_iff.1 h
      rw [get_cons] at hg
      split at hg
      · rename_i e; subst e; obtain rfl := Option.some.inj hg; exact ⟨j0, m, ds, List.mem_cons_self, hj, rfl⟩
      · obtain ⟨j, m', ds', g1, g2, g3⟩ := nestS_get h1 hg
        exact ⟨j, m', ds', List.mem_cons_of_mem _ g1, g2, g3⟩
    · cases h
theorem nestS_mem {cs : List IV} : ∀ {ns : List (Nat × Nat)} {σ0 : Sto}, nestS cs ns = some σ0 → nodN ns = true → ∀ {q j : Nat}, (q, j) ∈ ns → ∃ m ds, cs[j]? = some (.sl m ds) ∧ get σ0 q = some (.row m ds)
  | [], σ0, h, _, q, j, hm => by cases hm
  | (q0, j0) :: r, σ0, h, hn, q, j, hm => by
    simp only [nestS] at h
    split at h
    · rename_i m ds hj
      obtain ⟨σ1, h1, rfl⟩ := Option.map_eq_some_iff.1 h
      simp only [nodN, Bool.and_eq_true, List.all_eq_true, bne_iff_ne, ne_eq] at hn
      rcases List.mem_cons.1 hm with e | hm
      · injection e with e1 e2; subst e1; subst e2; exact ⟨m, ds, hj, by rw [get_cons, if_pos rfl]⟩
      · obtain ⟨m', ds', g1, g2⟩ := nestS_mem h1 hn.2 hm
        exact ⟨m', ds', g1, by rw [get_cons, if_neg (hn.1 _ hm).1]; exact g2⟩
    · cases h
/-- What the cells are behind the call. -/
theorem nestB_spec {σ1 : Sto} : ∀ {ns : List (Nat × Nat)} {cs cs' : List IV}, nestB σ1 ns cs = some cs' → nodN ns = true → cs'.length = cs.length ∧
    (∀ q j, (q, j) ∈ ns → ∃ m ds ds0, get σ1 q = some (.row m ds) ∧ cs[j]? = some (.sl m ds0) ∧ cs'[j]? = some (.sl m ds)) ∧ ∀ j, (∀ q, (q, j) ∉ ns) → cs'[j]? = cs[j]?
  | [], cs, cs', h, _ => by obtain rfl := Option.some.inj h; exact ⟨rfl, fun _ _ h => (by cases h), fun _ _ => rfl⟩
  | (q0, j0) :: r, cs, cs', h, hn => by
    simp only [nestB] at h
    simp only [nodN, Bool.and_eq_true, List.all_eq_true, bne_iff_ne, ne_eq] at hn
    split at h
    · rename_i m ds m' ds0 hg hj
      split at h
      · rename_i e
        subst e
        obtain ⟨g1, g2, g3⟩ := nestB_spec h hn.2
        have hjl : j0 < cs.length := (List.getElem?_eq_some_iff.1 hj).1
        refine ⟨by simpa using g1, fun q j hm => ?_, fun j hj' => ?_⟩
        · rcases List.mem_cons.1 hm with e | hm
          · injection e with e1 e2
            subst e1; subst e2
            refine ⟨m, ds, ds0, hg, hj, ?_⟩
            rw [g3 j fun p hp => (hn.1 _ hp).2 rfl, List.getElem?_set_self hjl]
          · obtain ⟨m1, d1, d0, k1, k2, k3⟩ := g2 q j hm
            refine ⟨m1, d1, d0, k1, ?_, k3⟩
            rw [List.getElem?_set_ne (fun e => (hn.1 _ hm).2 e.symm)] at k2
            exact k2
        · rw [g3 j fun p hp => hj' p (List.mem_cons_of_mem _ hp), List.getElem?_set_ne fun e => hj' q0 (by subst e; exact List.mem_cons_self)]
      · cases h
    · cases h
theorem nestC_ok {k : Nat} {ns : List (Nat × Nat)} {cs : List IV} {ω0 : Lab} {κ0 : Nat → Value} {σ0 : Sto} (him : ∀ b, ω b = .im → ω0 b = .im ∧ w.heap[b]? = w.heap[b]?)
    (hns : ∀ q j m ds v, (q, j) ∈ ns → cs[j]? = some (.sl m ds) → RC w ω κ σ (.ns k j) v → RC w ω0 κ0 σ0 (.os q m) v) {c d : Cell} {v : Value} (h : nestC k ns cs c = some d) (hc : RC w ω κ σ c v) : RC w ω0 κ0 σ0 d v := by
  cases c with
  | im x =>
    obtain rfl := Option.some.inj h
    cases hc with | im _ _ hx => exact .im _ _ (hx.kept him)
  | ns k' j =>
    simp only [nestC] at h
    split at h
    · rename_i e
      subst e
      split at h
      · rename_i q m ds hq hj
        obtain rfl := Option.some.inj h
        exact hns q j m ds v (qOf_mem hq) hj hc
      · cases h
    · cases h
  | _ => cases h
theorem nestL_ok {k : Nat} {ns : List (Nat × Nat)} {cs : List IV} {ω0 : Lab} {κ0 : Nat → Value} {σ0 : Sto} (H : ∀ {c d : Cell} {v : Value}, nestC k ns cs c = some d → RC w ω κ σ c v → RC w ω0 κ0 σ0 d v) : ∀ {xs ds : List Cell} {vs : List Value}, nestL k ns cs xs = some ds → All2 (RC w ω κ σ) xs vs → All2 (RC w ω0 κ0 σ0) ds vs
  | [], ds, vs, h, hv => by obtain rfl := Option.some.inj h; exact ⟨hv.1, by simp⟩
  | c :: r, ds, [], h, hv => by simp [All2] at hv
  | c :: r, ds, v :: vs, h, hv => by
    simp only [nestL] at h
    obtain ⟨d, hd, h⟩ := Option.bind_eq_some_iff.1 h
    obtain ⟨ds', hds, rfl⟩ := Option.map_eq_some_iff.1 h
    exact .cons (H hd hv.head) (nestL_ok H hds hv.tail)
theorem nestT_ok {k : Nat} {ns : List (Nat × Nat)} {cs : List IV} {ω0 : Lab} {κ0 : Nat → Value} {σ0 : Sto} (H : ∀ {c d : Cell} {v : Value}, nestC k ns cs c = some d → RC w ω κ σ c v → RC w ω0 κ0 σ0 d v) : ∀ {xs ys : List TV} {vs : List Value}, nestT k ns cs xs = some ys → All2 (RT w ω κ σ) xs vs → All2 (RT w ω0 κ0 σ0) ys vs
  | [], ys, vs, h, hv => by obtain rfl := Option.some.inj h; exact ⟨hv.1, by simp⟩
  | x :: r, ys, [], h, hv => by simp [All2] at hv
  | .c x :: r, ys, v :: vs, h, hv => by
    simp only [nestT] at h
    obtain ⟨d, hd, h⟩ := Option.bind_eq_some_iff.1 h
    obtain ⟨ds', hds, rfl⟩ := Option.map_eq_some_iff.1 h
    exact .cons (H hd hv.head) (nestT_ok H hds hv.tail)
  | .ag x :: r, ys, v :: vs, h, hv => by
    simp only [nestT] at h
    obtain ⟨d, hd, h⟩ := Option.bind_eq_some_iff.1 h
    obtain ⟨ds', hds, rfl⟩ := Option.map_eq_some_iff.1 h
    have hx := hv.head
    obtain ⟨us, rfl, h1, h2⟩ := hx
    exact .cons ⟨us, rfl, nestL_ok H hd h1, h2⟩ (nestT_ok H hds hv.tail)
  | .tp _ :: r, ys, v :: vs, h, hv => by cases h
/-- An own row's cells, and what they lead to. -/
theorem row_parts {k n : Nat} {cs : List IV} (h : ObOk w ω κ σ k (.row n cs)) : ∃ (us : Nat → Value) (Ss : Nat → Nat → Prop),
    (∀ j x, cs[j]? = some x → RO w x (us j) (Ss j)) ∧ (∀ i j b, i < cs.length → j < cs.length → i ≠ j → Ss i b → ¬ Ss j b) ∧ (∀ j b, j < cs.length → Ss j b → ω b = .ob k) ∧
    (∀ j b n' c, j < cs.length → κ k = .slice (some ⟨b, 0, none⟩) n' c → w.cell? ⟨b, j, none⟩ = some (us j)) ∧
    (∀ b n' c, κ k = .slice (some ⟨b, 0, none⟩) n' c → 0 < c → ω b = .ob k ∧ ∀ j, j < cs.length → ¬ Ss j b) ∧
    ∀ (w' : World) (ω' : Lab) (κ' : Nat → Value) (σ' : Sto) (cs' : List IV) (Ts : Nat → Nat → Prop), cs'.length = cs.length → (∀ j x, cs'[j]? = some x → RO w' x (us j) (Ts j)) →
      (∀ i j b, i < cs.length → j < cs.length → i ≠ j → Ts i b → ¬ Ts j b) → (∀ j b, j < cs.length → Ts j b → ω' b = .ob k) → (∀ j b, j < cs.length → Ts j b → w.heap.size ≤ b ∨ ∃ i, i < cs.length ∧ Ss i b) →
      (∀ b, ω b = .ob k → ω' b = .ob k) → (∀ b, ω b = .ob k → (∀ j, j < cs.length → ¬ Ss j b) → w'.heap[b]? = w.heap[b]?) → κ' k = κ k → ObOk w' ω' κ' σ' k (.row n cs') := by
  obtain ⟨S, hR, hlab⟩ := h
  generalize hkv : κ k = kv at hR
  cases hR with
  | z a S hS =>
    refine ⟨fun _ => undef, fun _ _ => False, by simp, by simp, by simp, by simp, fun b n' c e hc => ?_, fun w' ω' κ' σ' cs' Ts hl _ _ _ _ _ _ hκ => ?_⟩
    · injection e with _ _ e; omega
    · obtain rfl : cs' = [] := List.eq_nil_of_length_eq_zero hl
      exact ⟨fun _ => False, by rw [hκ]; exact .z _ _ (fun _ h => h), fun _ h => h.elim⟩
  | sl _ c g t arr _ Ss _ hheap hc hnc hcm hsz h1 h2 h3 h4 =>
    have hg : ω g = .ob k := hlab g ((h4 g).2 (.inl rfl))
    refine ⟨fun j => arr.getD j undef, Ss, h1, h3, fun j b hj hb => hlab b ((h4 b).2 (.inr ⟨j, hj, hb⟩)), fun j b n' c' hj he => ?_, fun b n' c' he hc' => ?_, fun w' ω' κ' σ' cs' Ts hl g1 g2 g3 g4 g5 g6 hκ => ?_⟩
    · injection he with e1 _ _
      injection e1 with e1
      injection e1 with e1
      subst e1
      rw [cell_row hheap]
      have : j < arr.size := by omega
      simp [Array.getD, this]
    · injection he with e1 _ _
      injection e1 with e1
      injection e1 with e1
      subst e1
      exact ⟨hg, h2⟩
    · refine ⟨fun b => b = g ∨ ∃ j, j < cs'.length ∧ Ts j b, ?_, fun b hb => ?_⟩
      · rw [hκ]
        refine .sl n c g t arr cs' Ts _ ((g6 g hg h2).trans hheap) hc hnc hcm (by omega) g1 (fun j hj hb => ?_) (fun i j b hi hj => g2 i j b (by omega) (by omega)) fun _ => Iff.rfl
        rcases g4 j g (by omega) hb with h | ⟨i, hi, h⟩
        · have : g < w.heap.size := (Array.getElem?_eq_some_iff.1 hheap).1
          omega
        · exact h2 i hi h
      · rcases hb with rfl | ⟨j, hj, hb⟩
        · exact g5 _ hg
        · exact g3 j b (by omega) hb
theorem RO_sl {m : Nat} {ds : List IV} {v : Value} {S : Nat → Prop} (h : RO w (.sl m ds) v S) : ∃ ad c, v = .slice ad m c ∧ m ≤ c ∧ (ad = none → c = 0) := by
  cases h with
  | z a => exact ⟨a, 0, rfl, Nat.le_refl _, fun _ => rfl⟩
  | sl _ c g => exact ⟨_, c, rfl, by assumption, fun h => by cases h⟩
/-- **A call that writes what stands in the cells of an own row**, and returns a scalar. -/
theorem CallG.nest {g d k n : Nat} (ns : List (Nat × Nat)) {xs ys : List TV} {cs cs' : List IV} {σ0 σ1 : Sto} {r : TV} {K : St → Prop} {t : Tg K} (hf : FnS P g σ0 ys σ1 r) (hk : get s.σ k = some (.row n cs)) (h0 : nestS cs ns = some σ0) (hn : nodN ns = true)
    (hx : nestT k ns cs xs = some ys) (h1 : nestB σ1 ns cs = some cs') (hr' : pureT r = true ∧ r.keys = []) (hd : d < s.N) (hK : K ⟨s.N, (d, r) :: s.E, upd s.σ k (.row n cs')⟩) : CallG P s g xs d K t := by
  intro β ω κ a w vs hr hv
  obtain ⟨us, Ss, p1, p2, p3, p4, p6, p5⟩ := row_parts (hr.rs.ob k _ hk)
  have jl : ∀ {q j}, (q, j) ∈ ns → j < cs.length := fun h => by
    obtain ⟨m, ds, g1, _⟩ := nestS_mem h0 hn h
    exact (List.getElem?_eq_some_iff.1 g1).1
  classical
  obtain ⟨ω0, ω0_in, ω0_ob, ω0_im, ω0_out⟩ : ∃ ω0 : Lab, (∀ q j b, (q, j) ∈ ns → Ss j b → ω0 b = .ob q) ∧ (∀ q b, ω0 b = .ob q → ∃ j, (q, j) ∈ ns ∧ Ss j b) ∧ (∀ b, ω b = .im ↔ ω0 b = .im) ∧ ∀ b, ω b ≠ .im → (∀ q j, (q, j) ∈ ns → ¬ Ss j b) → ω0 b = .no := by
    refine ⟨fun b => if h : ∃ q, ∃ j, (q, j) ∈ ns ∧ Ss j b then .ob h.choose else match ω b with | .im => .im | _ => .no, fun q j b hm hb => ?_, fun q b hb => ?_, fun b => ?_, fun b hb hno => ?_⟩
    · have h : ∃ q, ∃ j, (q, j) ∈ ns ∧ Ss j b := ⟨q, j, hm, hb⟩
      simp only [dif_pos h]
      obtain ⟨j', g1, g2⟩ := h.choose_spec
      have : j' = j := Classical.byContradiction fun e => p2 j' j b (jl g1) (jl hm) e g2 hb
      subst this
      rw [nod_cell hn g1 hm]
    · simp only at hb
      split at hb
      · rename_i h
        injection hb with hb
        obtain ⟨j', g1, g2⟩ := h.choose_spec
        rw [hb] at g1
        exact ⟨j', g1, g2⟩
      · split at hb <;> cases hb
    · constructor
      · intro hb
        have h : ¬ ∃ q, ∃ j, (q, j) ∈ ns ∧ Ss j b := fun ⟨q, j, g1, g2⟩ => by rw [p3 j b (jl g1) g2] at hb; cases hb
        simp only [dif_neg h, hb]
      · intro hb
        simp only at hb
        split at hb
        · cases hb
        · split at hb
          · assumption
          · cases hb
    · have h : ¬ ∃ q, ∃ j, (q, j) ∈ ns ∧ Ss j b := fun ⟨q, j, g1, g2⟩ => hno q j g1 g2
      simp only [dif_neg h]
  obtain ⟨κ0, κ0_in⟩ : ∃ κ0 : Nat → Value, ∀ q j, (q, j) ∈ ns → κ0 q = us j := by
    refine ⟨fun q => if h : ∃ j, (q, j) ∈ ns then us h.choose else undef, fun q j hm => ?_⟩
    have h : ∃ j, (q, j) ∈ ns := ⟨j, hm⟩
    simp only [dif_pos h]
    rw [nod_key hn h.choose_spec hm]
  have ω0_no : ∀ b, ω b = .no → ω0 b = .no := fun b hb => ω0_out b (by rw [hb]; simp) fun q j g1 g2 => by rw [p3 j b (jl g1) g2] at hb; cases hb
  have hRS : RS w ω0 κ0 σ0 := ⟨fun q o hg => by
    obtain ⟨j, m, ds, g1, g2, rfl⟩ := nestS_get h0 hg
    exact ⟨Ss j, by rw [κ0_in q j g1]; exact p1 j _ g2, fun b hb => ω0_in q j b g1 hb⟩, fun b hb => hr.rs.dom b fun e => hb (ω0_no b e)⟩
  have hargs : All2 (RT w ω0 κ0 σ0) ys vs := nestT_ok (nestC_ok (fun b hb => ⟨(ω0_im b).1 hb, rfl⟩) fun q j m ds v hm hj hc => by
    cases hc with
    | ns _ _ _ hh =>
      obtain ⟨b, n', c, e1, _, e3⟩ := hh _ n hk rfl
      have h2 := p4 j b n' c (jl hm) e1
      rw [e3] at h2
      obtain rfl := Option.some.inj h2
      obtain ⟨ad, c', e, h3, h4⟩ := RO_sl (p1 j _ hj)
      rw [e]
      refine .os q m ad c' h3 h4 fun o l ho hl => ?_
      obtain ⟨m', ds', g1, g2⟩ := nestS_mem h0 hn hm
      rw [g2] at ho
      obtain rfl := Option.some.inj ho
      rw [hj] at g1
      injection g1 with g1; injection g1 with g1 _
      obtain rfl := Option.some.inj hl
      exact ⟨by omega, fun _ => by rw [κ0_in q j hm, e]⟩) hx hv
  refine (hf w ω0 κ0 vs hRS (fun b q hb => by
    obtain ⟨j, g1, _⟩ := ω0_ob q b hb
    obtain ⟨m, ds, _, g⟩ := nestS_mem h0 hn g1
    rw [g]; rfl) hargs).mono fun e w' ⟨v, ωc, κc, he, ht, hS, hrv, hkc⟩ => ⟨v, he, _, hK, ?_⟩
  obtain ⟨n1, n2, n3⟩ := nestB_spec h1 hn
  -- the labels behind the call
  obtain ⟨ωf, f_old, f_new, f_no⟩ : ∃ ωf : Lab, (∀ b, ω b ≠ .no → ωf b = ω b) ∧ (∀ b q, ω b = .no → w.heap.size ≤ b → ωc b = .ob q → ωf b = .ob k) ∧ ∀ b, ω b = .no → (b < w.heap.size ∨ ∀ q, ωc b ≠ .ob q) → ωf b = .no := by
    refine ⟨fun b => match ω b with | .no => if b < w.heap.size then .no else (match ωc b with | .ob _ => .ob k | _ => .no) | l => l, fun b hb => ?_, fun b q hb hs hq => ?_, fun b hb hor => ?_⟩
    · cases hw : ω b with
      | no => exact absurd hw hb
      | im => simp only [hw]
      | ob i => simp only [hw]
    · simp only [hb, if_neg (Nat.not_lt.2 hs), hq]
    · simp only [hb]
      split
      · rfl
      · rename_i hlt
        split
        · rename_i q hq; rcases hor with h | h
          · exact absurd h hlt
          · exact absurd hq (h q)
        · rfl
  have same : ∀ b, b < w.heap.size → (∀ q j, (q, j) ∈ ns → ¬ Ss j b) → w'.heap[b]? = w.heap[b]? := fun b hb hno => ht.block b hb fun q hq => by
    obtain ⟨j, g1, g2⟩ := ω0_ob q b hq
    exact hno q j g1 g2
  have him : ∀ b, ω b = .im → ωf b = .im ∧ w'.heap[b]? = w.heap[b]? := fun b hb => ⟨by rw [f_old b (by rw [hb]; simp), hb], same b (hr.rs.dom b (by rw [hb]; simp)) fun q j g1 g2 => by rw [p3 j b (jl g1) g2] at hb; cases hb⟩
  have other : ∀ b i, ω b = .ob i → i ≠ k → w'.heap[b]? = w.heap[b]? := fun b i hb hi => same b (hr.rs.dom b (by rw [hb]; simp)) fun q j g1 g2 => by
    rw [p3 j b (jl g1) g2] at hb; injection hb with hb; exact hi hb.symm
  have f_ob : ∀ b i, ω b = .ob i → ωf b = .ob i := fun b i hb => by rw [f_old b (by rw [hb]; simp), hb]
  have hin : ∀ q b, ωc b = .ob q → ωf b = .ob k ∧ (w.heap.size ≤ b ∨ ∃ i, i < cs.length ∧ Ss i b) := fun q b hq => by
    by_cases hb : ∃ p j, (p, j) ∈ ns ∧ Ss j b
    · obtain ⟨p, j, g1, g2⟩ := hb
      exact ⟨f_ob b k (p3 j b (jl g1) g2), .inr ⟨j, jl g1, g2⟩⟩
    · have hb' : ∀ p j, (p, j) ∈ ns → ¬ Ss j b := fun p j g1 g2 => hb ⟨p, j, g1, g2⟩
      cases hw : ω b with
      | im => have := ht.im b ((ω0_im b).1 hw); rw [hq] at this; cases this
      | ob i => have := ht.no b (hr.rs.dom b (by rw [hw]; simp)) (ω0_out b (by rw [hw]; simp) hb'); rw [hq] at this; cases this
      | no =>
        by_cases hlt : b < w.heap.size
        · have := ht.no b hlt (ω0_no b hw); rw [hq] at this; cases this
        · exact ⟨f_new b q hw (by omega) hq, .inl (by omega)⟩
  have hT : ∀ j, ∃ T : Nat → Prop, (∀ x, cs'[j]? = some x → RO w' x (us j) T) ∧ ((∃ q, (q, j) ∈ ns ∧ ∀ b, T b → ωc b = .ob q) ∨ ((∀ q, (q, j) ∉ ns) ∧ T = Ss j)) := fun j => by
    by_cases h : ∃ q, (q, j) ∈ ns
    · obtain ⟨q, hm⟩ := h
      obtain ⟨m, ds, ds0, g1, g2, g3⟩ := n2 q j hm
      obtain ⟨S', h3, h4⟩ := hS.ob q _ g1
      obtain ⟨m0, ds1, g4, g5⟩ := nestS_mem h0 hn hm
      rw [g2] at g4
      injection g4 with g4; injection g4 with g4 g4'
      obtain ⟨o, m1, k1, k2, k3, k4⟩ := (hkc q (by rw [g5]; rfl)).2 _ m g1 rfl
      rw [g5] at k1
      obtain rfl := Option.some.inj k1
      obtain rfl := Option.some.inj k2
      have hκ : κc q = us j := by rw [k4 g4.symm, κ0_in q j hm]
      rw [hκ] at h3
      refine ⟨S', fun x hx => ?_, .inl ⟨q, hm, h4⟩⟩
      rw [g3] at hx
      obtain rfl := Option.some.inj hx
      exact h3
    · have h' : ∀ q, (q, j) ∉ ns := fun q hq => h ⟨q, hq⟩
      refine ⟨Ss j, fun x hx => ?_, .inr ⟨h', rfl⟩⟩
      rw [n3 j h'] at hx
      have hj := (List.getElem?_eq_some_iff.1 hx).1
      refine (p1 j x hx).kept fun b hb => same b (hr.rs.dom b (by rw [p3 j b hj hb]; simp)) fun q i g1 g2 => ?_
      exact p2 i j b (jl g1) hj (fun e => h' q (by rw [← e]; exact g1)) g2 hb
  obtain ⟨Ts, hTs⟩ := Classical.axiomOfChoice hT
  have hout : ∀ j b, j < cs.length → (∀ q, (q, j) ∉ ns) → Ss j b → ωc b = .no := fun j b hj hno hb =>
    ht.no b (hr.rs.dom b (by rw [p3 j b hj hb]; simp)) (ω0_out b (by rw [p3 j b hj hb]; simp) fun q i g1 g2 => p2 i j b (jl g1) hj (fun e => hno q (by rw [← e]; exact g1)) g2 hb)
  have hsome : (get s.σ k).isSome = true := by rw [hk]; rfl
  have hkey : ∀ i, KeyOk κ s.σ κ (upd s.σ k (.row n cs')) i := fun i => ⟨fun _ => rfl, fun o' m' ho hm => by
    rw [get_upd _ _ _ _ hsome] at ho
    split at ho
    · rename_i e
      subst e
      obtain rfl := Option.some.inj ho
      exact ⟨_, m', hk, hm, Nat.le_refl _, fun _ => rfl⟩
    · exact ⟨o', m', ho, hm, Nat.le_refl _, fun _ => rfl⟩⟩
  have hobk : ObOk w' ωf κ (upd s.σ k (.row n cs')) k (.row n cs') := by
    refine p5 w' ωf κ _ cs' Ts n1 (fun j x hx => (hTs j).1 x hx) (fun i j b hi hj hij h1 h2 => ?_) (fun j b hj hb => ?_) (fun j b hj hb => ?_) (fun b hb => f_ob b k hb) (fun b hb hno => same b (hr.rs.dom b (by rw [hb]; simp)) fun q j g1 => hno j (jl g1)) rfl
    · rcases (hTs i).2 with ⟨q, g1, g2⟩ | ⟨g1, g2⟩
      · rcases (hTs j).2 with ⟨q', g3, g4⟩ | ⟨g3, g4⟩
        · have e1 := g2 b h1
          rw [g4 b h2] at e1
          injection e1 with e1
          subst e1
          exact hij (nod_key hn g1 g3)
        · rw [g4] at h2
          have e1 := hout j b hj g3 h2
          rw [g2 b h1] at e1; cases e1
      · rw [g2] at h1
        rcases (hTs j).2 with ⟨q', g3, g4⟩ | ⟨g3, g4⟩
        · have e1 := hout i b hi g1 h1
          rw [g4 b h2] at e1; cases e1
        · rw [g4] at h2; exact p2 i j b hi hj hij h1 h2
    · rcases (hTs j).2 with ⟨q, g1, g2⟩ | ⟨g1, g2⟩
      · exact (hin q b (g2 b hb)).1
      · rw [g2] at hb; exact f_ob b k (p3 j b hj hb)
    · rcases (hTs j).2 with ⟨q, g1, g2⟩ | ⟨g1, g2⟩
      · exact (hin q b (g2 b hb)).2
      · rw [g2] at hb; exact .inr ⟨j, hj, hb⟩
  have hrs : RS w' ωf κ (upd s.σ k (.row n cs')) := by
    refine ⟨fun i o ho => ?_, fun b hb => ?_⟩
    · rw [get_upd _ _ _ _ hsome] at ho
      split at ho
      · rename_i e
        subst e
        obtain rfl := Option.some.inj ho
        exact hobk
      · rename_i hi
        exact (hr.rs.ob i o ho).step rfl (fun b hb => ⟨f_ob b i hb, other b i hb hi⟩) him fun _ _ _ i _ => hkey i
    · by_cases hw : ω b = .no
      · by_cases hc : b < w.heap.size ∨ ∀ q, ωc b ≠ .ob q
        · exact absurd (f_no b hw hc) hb
        · have hc2 : ¬ ∀ q, ωc b ≠ .ob q := fun h => hc (.inr h)
          refine hS.dom b fun e => hc2 fun q hq => ?_
          rw [e] at hq; cases hq
      · exact Nat.lt_of_lt_of_le (hr.rs.dom b hw) ht.size
  have hrel : Rel β ωf κ ⟨s.N, s.E, upd s.σ k (.row n cs')⟩ a w' := by
    refine ⟨hr.turn.trans ⟨ht.os, ht.tape, ht.output, ht.size, fun b hb hno => same b hb fun q j g1 g2 => hno k (p3 j b (jl g1) g2), fun b hb => (him b hb).1, fun b hb hno => f_no b hno (.inl hb)⟩, fun i hi => (hr.keys i hi).trans (hkey i), hr.odd, hr.defers, hr.size, fun t x hx => ⟨(hr.env t x hx).1, (hr.env t x hx).2.step ⟨him, fun i _ => hkey i, fun i _ o' m' ho hm => ?_⟩⟩, hrs⟩
    rw [get_upd _ _ _ _ hsome] at ho
    split at ho
    · rename_i e
      subst e
      obtain rfl := Option.some.inj ho
      refine ⟨⟨_, m', hk, hm⟩, rfl, fun b n' c hv hc => ?_⟩
      obtain ⟨g1, g2⟩ := p6 b n' c hv hc
      exact same b (hr.rs.dom b (by rw [g1]; simp)) fun q j g3 => g2 j (jl g3)
    · rename_i hi
      refine ⟨⟨o', m', ho, hm⟩, rfl, fun b n' c hv hc => other b i ?_ hi⟩
      have hob := hr.rs.ob i o' ho
      cases o' with
      | box => cases hm
      | vec t' e' n' cs own =>
        obtain ⟨_, xs, _, h3, _⟩ := hob
        exact h3 b (by rw [hv, rowB_some hc])
      | row n' cs =>
        obtain ⟨S, h3, h4⟩ := hob
        rw [hv] at h3
        cases h3 with
        | z => omega
        | sl _ _ _ _ _ _ _ _ _ _ _ _ _ _ _ _ h5 => exact h4 b ((h5 b).2 (.inl rfl))
  have hrv' : RT w' ωf κ (upd s.σ k (.row n cs')) r v := hrv.stepP hr'.1 fun i hi => by
    have := hasT_keys i r hi
    rw [hr'.2] at this; cases this
  exact ⟨_, _, hrel.put hd hrv'⟩
end
end Go.VC
