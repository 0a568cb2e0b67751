/- slices.Insert of one text ahead of a row, from its contracts: no statement of a program. -/
import Derived.Test.YtednmgjookkcnaaDoorGW3
import Derived.Deep.AppendSrc
import Derived.Deep.Upon
set_option linter.unusedSimpArgs false
set_option linter.unusedVariables false
namespace Go.VC
open Go Go.RowKit Go.Proofs Go.Shelf
theorem take_cells {cur : Array Value} {ys : List Value} {n : Nat} (hl : ys.length = n) (h : ∀ (j : Nat) v, ys[j]? = some v → cur[j]? = some v) : cur.toList.take n = ys := by
  subst hl
  refine List.ext_getElem? fun j => ?_
  rw [List.getElem?_take]
  split
  · rename_i hj
    have := h j _ (List.getElem?_eq_getElem hj)
    rw [List.getElem?_eq_getElem hj, ← this]
    simp
  · rename_i hj
    rw [List.getElem?_eq_none (by omega)]
theorem ins_cells1 {b : Nat} {w : World} {v : Value} {cs : List Value} (h : ∀ j, j < cs.length + 1 → (w.cell? ⟨b, j, none⟩).isSome = true) : ∀ (j : Nat) u, (v :: cs)[j]? = some u → ((w.setCells b 1 cs).setCells b 0 [v]).cell? ⟨b, j, none⟩ = some u := by
  intro j u hj
  have h1 : ∀ j, j < cs.length → (w.cell? ⟨b, 1 + j, none⟩).isSome = true := fun j hj => h (1 + j) (by omega)
  cases j with
  | zero =>
    obtain rfl := Option.some.inj hj
    have := World.cell?_setCells_in b [v] 0 (w.setCells b 1 cs) (fun i hi => by
      simp at hi; subst hi
      rw [World.cell?_setCells_out b cs 1 w _ (fun _ _ => .inl (by show 0 + 0 < 1; omega))]
      exact h 0 (by omega)) 0 (by simp)
    exact this
  | succ j =>
    rw [List.getElem?_cons_succ] at hj
    obtain ⟨hl, rfl⟩ := List.getElem?_eq_some_iff.1 hj
    rw [World.cell?_setCells_out b [v] 0 _ _ (fun _ _ => .inr (by show 0 + 1 ≤ j + 1; omega))]
    have := World.cell?_setCells_in b cs 1 w h1 j hl
    rw [show j + 1 = 1 + j by omega]
    exact this
theorem ins_cells2 {b : Nat} {w : World} {v : Value} {cs : List Value} (h : ∀ j, j < cs.length + 1 → (w.cell? ⟨b, j, none⟩).isSome = true) : ∀ (j : Nat) u, (v :: cs)[j]? = some u → ((w.setCells b 0 [v]).setCells b 1 cs).cell? ⟨b, j, none⟩ = some u := by
  intro j u hj
  have h0 : ∀ i, i < [v].length → (w.cell? ⟨b, 0 + i, none⟩).isSome = true := fun i hi => h (0 + i) (by simp at hi; omega)
  have h1 : ∀ j, j < cs.length → ((w.setCells b 0 [v]).cell? ⟨b, 1 + j, none⟩).isSome = true := fun j hj => by
    rw [World.cell?_setCells_out b [v] 0 _ _ (fun _ _ => .inr (by show 0 + 1 ≤ 1 + j; omega))]
    exact h (1 + j) (by omega)
  cases j with
  | zero =>
    obtain rfl := Option.some.inj hj
    rw [World.cell?_setCells_out b cs 1 _ _ (fun _ _ => .inl (by show 0 < 1; omega))]
    exact World.cell?_setCells_in b [v] 0 w h0 0 (by simp)
  | succ j =>
    rw [List.getElem?_cons_succ] at hj
    obtain ⟨hl, rfl⟩ := List.getElem?_eq_some_iff.1 hj
    have := World.cell?_setCells_in b cs 1 _ h1 j hl
    rw [show j + 1 = 1 + j by omega]
    exact this
set_option maxHeartbeats 2000000 in
/-- slices.Insert at []string: one text, ahead of all. -/
theorem FnS.insert0 {P : Program} {ρ : Ren} (L : Lays2.n22 P ρ) (xs : List ByteArray) (s : ByteArray) (hx : xs.length ≤ 2 ^ 20) :
    FnS P (ρ.f 22) [(1, .vec (ρ.t 9) 1 xs.length (xs.flatMap eS) true), (2, .vec (ρ.t 9) 1 1 [.sc (.string s)] true)] [.c (.os 1 xs.length), .c (.im (.sc (.int .i64 0))), .c (.os 2 1)]
      [(1, .vec (ρ.t 9) 1 (xs.length + 1) ((s :: xs).flatMap eS) true), (2, .vec (ρ.t 9) 1 1 [.sc (.string s)] true)] (.c (.os 1 (xs.length + 1))) := by
  intro w ω κ vs hS hω hvs
  obtain ⟨v0, v1, v2, rfl⟩ : ∃ v0 v1 v2, vs = [v0, v1, v2] := by
    have := hvs.1
    match vs, this with
    | [v0, v1, v2], _ => exact ⟨v0, v1, v2, rfl⟩
  have c0 := hvs.2 0 _ v0 rfl rfl
  have c1 := hvs.2 1 _ v1 rfl rfl
  have c2 := hvs.2 2 _ v2 rfl rfl
  have e1 : v1 = .int .i64 0 := by
    cases c1 with
    | im _ _ h => cases h; rfl
  subst e1
  obtain ⟨hr1, hl1⟩ := vec_strs (hS.ob 1 _ rfl)
  obtain ⟨hr2, hl2⟩ := vec_strs (xs := [s]) (hS.ob 2 _ rfl)
  have hdom := hS.dom
  have hb1 : ∀ b, b < w.heap.size → ω b ≠ .ob 1 → b ≠ w.heap.size := fun b hb _ => by omega
  have ho2 : ∀ t cs, Ob.vec (ρ.t 9) 1 1 [.sc (.string s)] true ≠ .box t cs := fun t cs h => by cases h
  have h1v : ∀ v ∈ [Value.string s], v.oneCell' = true := fun v hv => by simp at hv; subst hv; rfl
  have h1c : ∀ v ∈ xs.map Value.string, v.oneCell' = true := fun v hv => by
    obtain ⟨x, _, rfl⟩ := List.mem_map.1 hv; rfl
  have hmx : xs.length + 1 ≤ maxLen := by simp [maxLen]; omega
  cases c2 with
  | os _ _ a2 k2 hnc2 hz2 hkk2 =>
    have hk2 := (hkk2 _ _ rfl rfl).2 rfl
    rw [hk2] at hr2 hl2
    obtain ⟨_, h | h⟩ := hr2
    · exact absurd h.1 (by simp)
    obtain ⟨vb, cap2, cur2, e, hc2, hg2, hn2, hm2, hsz2, htk2⟩ := h
    obtain ⟨rfl, rfl⟩ : a2 = some ⟨vb, 0, none⟩ ∧ k2 = cap2 := by cases e; exact ⟨rfl, rfl⟩
    have hvs' : ∀ (j : Nat) v, [Value.string s][j]? = some v → w.cell? ⟨vb, 0 + j, none⟩ = some v := fun j v hj => by
      rw [Nat.zero_add, cell_row hg2]
      exact row_cell htk2 hj
    have hωv : ω vb = .ob 2 := hl2 vb (by
      cases k2 with
      | zero => omega
      | succ c => rfl)
    cases c0 with
    | os _ _ a c hnc hz hk =>
      have hk1 := (hk _ _ rfl rfl).2 rfl
      rw [hk1] at hr1 hl1
      obtain ⟨_, h | h⟩ := hr1
      · obtain ⟨hn, a', e⟩ := h
        obtain rfl : xs = [] := List.eq_nil_of_length_eq_zero hn
        obtain rfl : c = 0 := by cases e; rfl
        refine (Any2.slices_Insert_string_end_grow L a 0 0 vb 0 1 k2 [] [.string s] w (by omega) (by omega) (by omega) (by omega) rfl rfl (fun _ => rfl) (fun _ _ j v hj => by simp at hj) hvs' h1v).mono fun e w' ⟨he, hw⟩ => ?_
        subst he; subst hw
        have hge := grownCap_ge w (0 + 1) 0 (ρ.t 9)
        have hle := grownCap_le_maxLen w (0 + 1) 0 (ρ.t 9) hmx
        refine ins_end (xs := []) ho2 hS rfl rfl rfl (by simp [World.alloc]) (fun b hb _ => heap_alloc_old _ _ hb) (heap_alloc_new _ _) hge hle ?_ ?_ (.inr (Nat.le_refl _))
        · have hge' : 1 ≤ grownCap w 1 0 (ρ.t 9) := hge
          simp [size_zeroCells, Value.cells]; omega
        · simp
      · obtain ⟨gb, cap, cur, e, hc, hg, hnc', hm, hsz, htk⟩ := h
        obtain ⟨rfl, rfl⟩ : a = some ⟨gb, 0, none⟩ ∧ c = cap := by cases e; exact ⟨rfl, rfl⟩
        have hωg : ω gb = .ob 1 := hl1 gb (by
          cases c with
          | zero => omega
          | succ c => rfl)
        have hgs : gb < w.heap.size := (Array.getElem?_eq_some_iff.1 hg).1
        have hvg : vb ≠ gb := fun e => by rw [e, hωg] at hωv; cases hωv
        have hcell : ∀ j, j < c → (w.cell? ⟨gb, j, none⟩).isSome = true := fun j hj => by
          rw [cell_row hg, Array.getElem?_eq_getElem (by omega)]; rfl
        have hfz : ∀ j, w.frozen? ⟨gb, j, none⟩ = false := fun j => by simp [World.frozen?, hg]
        have hcs : ∀ (j : Nat) v, (xs.map Value.string)[j]? = some v → w.cell? ⟨gb, 0 + j, none⟩ = some v := fun j v hj => by
          rw [Nat.zero_add, cell_row hg]
          exact row_cell htk hj
        by_cases hroom : xs.length + 1 ≤ c
        · by_cases hn0 : xs.length = 0
          · obtain rfl : xs = [] := List.eq_nil_of_length_eq_zero hn0
            refine (Any2.slices_Insert_string_end_room L gb 0 0 c vb 0 1 k2 [.string s] w (by omega) hroom hm rfl (fun j hj => by rw [Nat.zero_add]; exact hcell j (by have : 0 + 1 ≤ c := hroom; omega)) (fun j _ => hfz _) hvs' h1v).mono fun e w' ⟨he, hw⟩ => ?_
            subst he; subst hw
            obtain ⟨cur', q1, q2⟩ := setCells_heap gb [.string s] (0 + 0) w cur _ _ hg
            obtain ⟨r1, r2, r3, r4, r5⟩ := setCells_out gb [.string s] (0 + 0) w
            refine ins_end (xs := []) ho2 hS r2 r3 r4 (Nat.le_of_eq r1.symm) (fun b _ hb => r5 b fun e => hb (e ▸ hωg)) q1 hroom hm (by omega) (take_cells rfl fun j v hj => ?_) (.inl hωg)
            rw [← cell_row q1 (o := j)]
            exact ins_cells1 (cs := []) (fun j hj => hcell j (by have : 0 + 1 ≤ c := hroom; simp at hj; omega)) j v hj
          · refine (Any2.slices_Insert_string_shift L gb 0 xs.length c 0 vb 0 1 k2 (xs.map Value.string) [.string s] w (by omega) (by omega) hroom hm hvg (by simp) rfl hcs (fun j hj => by rw [Nat.zero_add]; exact hcell j (by omega)) (fun j _ => hfz _) hvs' h1c h1v (ρ.t 9) (ρ.t 9) k2 c ?_ ?_ (by omega) ?_ ?_).mono fun e w' ⟨he, hw⟩ => ?_
            · simp [World.shape?, hg2, hsz2]
            · simp [World.shape?, hg, hsz]
            · simp [World.frozen?, hg2]
            · simp [World.frozen?, hg2]
            · subst he; subst hw
              have hg' : w.drew.heap[gb]? = some (.cells cur (ρ.t 9) (0, 0)) := hg
              obtain ⟨cur1, q1, q2⟩ := setCells_heap gb ((xs.map Value.string).drop 0) (0 + (0 + 1)) w.drew cur _ _ hg'
              obtain ⟨cur', q3, q4⟩ := setCells_heap gb [.string s] (0 + 0) _ cur1 _ _ q1
              obtain ⟨r1, r2, r3, r4, r5⟩ := setCells_out gb ((xs.map Value.string).drop 0) (0 + (0 + 1)) w.drew
              obtain ⟨u1, u2, u3, u4, u5⟩ := setCells_out gb [.string s] (0 + 0) (w.drew.setCells gb (0 + (0 + 1)) ((xs.map Value.string).drop 0))
              refine ins_end ho2 hS (u2.trans r2) (u3.trans r3) (u4.trans r4) (Nat.le_of_eq (u1.trans r1).symm) (fun b _ hb => (u5 b fun e => hb (e ▸ hωg)).trans (r5 b fun e => hb (e ▸ hωg))) q3 hroom hm (by omega) (take_cells (by simp) fun j v hj => ?_) (.inl hωg)
              rw [← cell_row q3 (o := j)]
              exact ins_cells1 (w := w.drew) (cs := xs.map Value.string) (fun j hj => hcell j (by simp at hj; omega)) j v hj
        · have hnc2 : xs.length = c := by omega
          have hn0 : 0 < xs.length := by omega
          refine (Any2.slices_Insert_string_grow L gb 0 xs.length c 0 vb 0 1 k2 (xs.map Value.string) [.string s] w (by omega) (by omega) (by omega) (by omega) (by omega) (by simp) rfl hcs hvs' h1c h1v).mono fun e w' ⟨he, hw⟩ => ?_
          subst he
          have hge := grownCap_ge w (xs.length + 1) c (ρ.t 9)
          have hle := grownCap_le_maxLen w (xs.length + 1) c (ρ.t 9) hmx
          generalize hG : grownCap w (xs.length + 1) c (ρ.t 9) = G at hw hge hle
          generalize hcur : ((xs.map Value.string).take 0).toArray ++ Builtin.zeroCells (Value.string ⟨#[]⟩).cells (xs.length + 1 - 0) ++ Builtin.zeroCells (Value.string ⟨#[]⟩).cells (G - (xs.length + 1)) = cur0 at hw
          have hs0 : cur0.size = G := by rw [← hcur]; simp [size_zeroCells, Value.cells]; omega
          have hnew : ((w.alloc (.cells cur0 (ρ.t 9))).drew).heap[w.heap.size]? = some (.cells cur0 (ρ.t 9) (0, 0)) := heap_alloc_new w _
          obtain ⟨cur1, q1, q2⟩ := setCells_heap w.heap.size [.string s] 0 _ cur0 _ _ hnew
          have q1' : (((w.alloc (.cells cur0 (ρ.t 9))).drew.setCells w.heap.size 0 [.string s]).drew).heap[w.heap.size]? = some (.cells cur1 (ρ.t 9) (0, 0)) := q1
          obtain ⟨cur', q3, q4⟩ := setCells_heap w.heap.size ((xs.map Value.string).drop 0) (0 + 1) _ cur1 _ _ q1'
          obtain ⟨r1, r2, r3, r4, r5⟩ := setCells_out w.heap.size [.string s] 0 (w.alloc (.cells cur0 (ρ.t 9))).drew
          obtain ⟨u1, u2, u3, u4, u5⟩ := setCells_out w.heap.size ((xs.map Value.string).drop 0) (0 + 1) ((w.alloc (.cells cur0 (ρ.t 9))).drew.setCells w.heap.size 0 [.string s]).drew
          subst hw
          refine ins_end ho2 hS (u2.trans r2) (u3.trans r3) (u4.trans r4) (Nat.le_trans (by simp) (Nat.le_of_eq (u1.trans r1).symm)) (fun b hb _ => ((u5 b (by omega)).trans (r5 b (by omega))).trans (heap_alloc_old _ _ hb)) q3 hge hle (by omega) (take_cells (by simp) fun j v hj => ?_) (.inr (Nat.le_refl _))
          rw [← cell_row q3 (o := j)]
          rw [drew_setCells]
          refine ins_cells2 (w := (w.alloc (.cells cur0 (ρ.t 9))).drew.drew) (cs := xs.map Value.string) (fun j hj => ?_) j v hj
          rw [World.cell?_drew, World.cell?_drew, World.cell?_alloc_new, Array.getElem?_eq_getElem (by simp at hj; omega)]
          rfl
end Go.VC
/- A text's bytes behind an own row of bytes: no statement of a program. -/
set_option linter.unusedSimpArgs false
set_option linter.unusedVariables false
namespace Go.VC
open Go Go.RowKit Go.Proofs Go.Shelf
section
variable {β : Base} {w w' : World} {ω ω' : Lab} {κ κ' : Nat → Value} {σ σ' : Sto} {E : Env} {a : Act} {s : St} {P : Program}
/-- A text's bytes as trees. -/
def byI (b : ByteArray) : List IV := b.data.toList.map fun x => .sc (.int .u8 x.toNat)
theorem byI_len (b : ByteArray) : (byI b).length = b.size := by unfold byI; rw [List.length_map, Array.length_toList]; rfl
theorem byI_allSc (b : ByteArray) : allSc (byI b) = true := by
  unfold byI
  generalize b.data.toList = l
  induction l with
  | nil => rfl
  | cons x r ih => simp only [List.map_cons, allSc]; exact ih
theorem byI_src (b : ByteArray) : All2 (fun x v => RI w ω x v ∨ ∃ S, RO w x v S) (byI b) (byteCells b) := by
  refine ⟨by rw [byI_len, byteCells_length], fun j x v hx hv => .inl ?_⟩
  unfold byI at hx
  unfold byteCells at hv
  rw [List.getElem?_map] at hx hv
  obtain ⟨u, h1, rfl⟩ := Option.map_eq_some_iff.1 hx
  rw [h1] at hv
  obtain rfl := Option.some.inj hv
  exact .sc _ rfl
theorem append_rowS {t tx ty e : TypeId} {i : TypeInfo} {z : Value} (ht : P.underlying t = some (.slice e)) (hi : P.info? e = some i) (hz : i.zero = some z) (hzs : z.cells.size = i.size) (hsz : i.size = 1) (htx : P.underlying tx = some .string)
    {v : Value} {n : Nat} {xs : List Value} (hown : RowOk w e i.size v n xs) (b : ByteArray) (h63 : n + b.size ≤ maxLen) (hbytes : (n + b.size) * i.bytes ≤ 140737488355328) :
    ∃ v' w', (Builtin.append_ #[t, tx] ty #[v, .string b]).run P w = .ok v' w' ∧ RowOk w' e i.size v' (n + b.size) (xs ++ byteCells b) ∧ w.grownBy w' (rowB v) ∧
      (v' = v ∧ b.size = 0 ∨ 0 < b.size) ∧ (∀ c, rowB v' = some c → rowB v = some c ∨ w.heap.size ≤ c) := by
  have hs : Go.Src P i.size tx (.string b) b.size (byteCells b) w := by rw [hsz]; exact Go.Src.ofString w htx b
  have hbl := byteCells_length b
  have hone := hs.one
  have hlen := hown.1
  rw [hsz, Nat.mul_one] at hlen
  have h63' : n + b.size ≤ 9223372036854775807 := by simp only [maxLen] at h63; omega
  -- a new row
  have hnew : ∀ (base : Option Addr) (c0 : Nat), c0 < n + b.size → n ≤ c0 → (Builtin.firstCells i.size n (.slice base n c0)).run P w.drew = .ok xs.toArray w.drew → (∀ c, rowB v = some c → True) → 0 < b.size →
      v = .slice base n c0 → ∃ v' w', (Builtin.append_ #[t, tx] ty #[v, .string b]).run P w = .ok v' w' ∧ RowOk w' e i.size v' (n + b.size) (xs ++ byteCells b) ∧ w.grownBy w' (rowB v) ∧ (v' = v ∧ b.size = 0 ∨ 0 < b.size) ∧ (∀ c, rowB v' = some c → rowB v = some c ∨ w.heap.size ≤ c) := by
    intro base c0 hc0 hn0 hold _ hm hv
    have hr := run_append_grow_src (P := P) w t tx ty e i z ht hi hz base n c0 xs hold (.string b) b.size (byteCells b) hs hc0 (Int.ofNat_le.2 h63') (growslice_fits (by omega) hbytes)
    have hge := grownCap_ge w (n + b.size) c0 e
    have hcm := grownCap_le_maxLen w (n + b.size) c0 e h63
    generalize grownCap w (n + b.size) c0 e = G at hr hge hcm
    subst hv
    refine ⟨_, _, hr, ⟨by rw [List.length_append, hlen, hbl, hsz, Nat.mul_one], .inr ⟨w.heap.size, G, _, rfl, by omega, heap_alloc_new w.drew _, hge, hcm, ?_, ?_⟩⟩, ⟨rfl, rfl, rfl, by simp, fun k hk _ => heap_alloc_old w.drew _ (by simpa using hk)⟩, .inr hm, fun c hc => ?_⟩
    · simp only [Array.size_append, List.size_toArray, size_zeroCells, hzs, List.length_append, hlen, hbl, hsz]
      omega
    · have : (n + b.size) * i.size = (xs ++ byteCells b).length := by rw [List.length_append, hlen, hbl, hsz, Nat.mul_one]
      rw [this]
      simp only [Array.toList_append]
      exact List.take_left
    · have := rowB_own hc
      simp [Value.ownBlock] at this
      exact .inr (by omega)
  rcases hown.2 with ⟨rfl, adx, rfl⟩ | ⟨g, cap, cur, rfl, hc, hg, hn, hm, hcs, htk⟩
  · have hx : xs = [] := List.eq_nil_of_length_eq_zero hlen
    subst hx
    rcases Nat.eq_zero_or_pos b.size with h0 | h0
    · have hb0 : byteCells b = [] := List.eq_nil_of_length_eq_zero (by rw [hbl, h0])
      rw [hb0, h0] at hs ⊢
      refine ⟨.slice adx 0 0, w, run_append_nothing w t tx ty e i ht hi adx 0 0 (Nat.le_refl _) (.string b) hs, by simpa using hown, World.grownBy.refl w _, .inl ⟨rfl, rfl⟩, fun c hc => .inl hc⟩
    · refine hnew adx 0 (by omega) (Nat.le_refl _) ?_ (fun _ _ => trivial) h0 rfl
      cases adx <;> simp [Builtin.firstCells, loadCells, loadCellsFrom]
  · by_cases hroom : n + b.size ≤ cap
    · have hcell : ∀ j, j < cap → (w.cell? ⟨g, j, none⟩).isSome = true := fun j hj => by
        rw [cell_row hg, Array.getElem?_eq_getElem (by rw [hcs, hsz]; omega)]; rfl
      have hr := run_append_room_src (P := P) w t tx ty e i ht hi g 0 n cap (.string b) b.size (byteCells b) hs hroom (fun j hj => by rw [hsz]; exact hcell _ (by rw [hbl] at hj; omega)) (fun j _ => by simp [World.frozen?, hg])
      obtain ⟨cur', q1, q2⟩ := setCells_heap g (byteCells b) (0 + n * i.size) w cur _ _ hg
      obtain ⟨r1, r2, r3, r4, r5⟩ := setCells_out g (byteCells b) (0 + n * i.size) w
      refine ⟨_, _, hr, ⟨by rw [List.length_append, hlen, hbl, hsz, Nat.mul_one], .inr ⟨g, cap, cur', rfl, hc, q1, hroom, hm, by rw [q2, hcs], ?_⟩⟩, ⟨r2, r3, r4, Nat.le_of_eq r1.symm, fun k hk hk' => r5 k fun e => hk' (by rw [rowB_some hc, e])⟩, ?_, fun c' hc' => .inl (by rw [rowB_some hc] at hc' ⊢; exact hc')⟩
      · refine take_cells (by rw [List.length_append, hlen, hbl, hsz, Nat.mul_one]) fun j u hj => ?_
        rw [← cell_row q1 (o := j)]
        by_cases hjn : j < n
        · rw [List.getElem?_append_left (by omega)] at hj
          rw [World.cell?_setCells_out g _ _ w _ (fun _ _ => .inl (by show j < 0 + n * i.size; rw [hsz]; omega)), cell_row hg]
          rw [hsz] at htk
          exact row_cell htk hj
        · rw [List.getElem?_append_right (by omega), hlen] at hj
          obtain ⟨hl, rfl⟩ := List.getElem?_eq_some_iff.1 hj
          have := World.cell?_setCells_in g (byteCells b) (0 + n * i.size) w (fun j hj => by rw [hsz]; exact hcell _ (by rw [hbl] at hj; omega)) (j - n) hl
          rw [hsz, show 0 + n * 1 + (j - n) = j by omega] at this
          rw [hsz]
          exact this
      · rcases Nat.eq_zero_or_pos b.size with h0 | h0
        · exact .inl ⟨by rw [h0, Nat.add_zero], h0⟩
        · exact .inr h0
    · refine hnew (some ⟨g, 0, none⟩) cap (by omega) hn ?_ (fun _ _ => trivial) (by omega) rfl
      refine run_firstCells_some w.drew i.size n ⟨g, 0, none⟩ n cap xs hown.1 fun j u hj => ?_
      rw [addr_add_lit]
      show w.cell? ⟨g, j, none⟩ = _
      rw [cell_row hg]
      rw [hsz] at htk
      exact row_cell htk hj
/-- A text's bytes go behind an own row. -/
theorem Rel.appendS (h : Rel β ω κ s a w) {d k n : Nat} {t tx ty e : TypeId} {by_ : Nat} {zs : List Value} {cs : List IV} {own : Bool} (hd : d < s.N) (ht : apOf P t = some (e, 1, by_, zs)) (htx : P.underlying tx = some .string) (hk : get s.σ k = some (.vec e 1 n cs own)) (b : ByteArray)
    (h63 : n + b.size ≤ maxLen) (hbytes : (n + b.size) * by_ ≤ 140737488355328) (hnn : nnE k s.E = true) :
    ∃ v' w', (Builtin.append_ #[t, tx] ty #[κ k, .string b]).run P w = .ok v' w' ∧ RelE β ⟨s.N, (d, .c (.os k (n + b.size))) :: s.E, upd s.σ k (.vec e 1 (n + b.size) (cs ++ byI b) own)⟩ (a.put (some d) v') w' := by
  obtain ⟨i, z, hu, hi, hz, hzs, hpos, q1, rfl, rfl, hone⟩ := apOf_some ht
  obtain ⟨h0, xs, hown, hlab, hcs⟩ := h.rs.ob k _ hk
  have hown' : RowOk w e i.size (κ k) n xs := by rw [q1]; exact hown
  obtain ⟨v', w', hr, ho, hg, hsame, hb⟩ := append_rowS (P := P) (ty := ty) hu hi hz hzs q1 htx hown' b h63 hbytes
  rw [q1] at ho
  obtain ⟨ad', c', hsl, hc1, hc2, hc3⟩ := ho.slice
  have hsome : (get s.σ k).isSome = true := by rw [hk]; rfl
  have hlt : ∀ b, rowB v' = some b → b < w'.heap.size := fun b hb => ho.lt hb
  have hy : Src w ω [] own (byI b) (byteCells b) := src_flat (byI_src b) (byI_allSc b) own
  refine ⟨v', w', hr, _, _, Rel.put (v := v') (h.rowTo (σ' := upd s.σ k (.vec e 1 (n + b.size) (cs ++ byI b) own)) k [] v' (.vec e 1 (n + b.size) (cs ++ byI b) own) hg hlab (fun b hbv => ?_) (by simp) (fun j hj => by rw [get_upd _ _ _ _ hsome, if_neg hj]; simp) (by rw [get_upd _ _ _ _ hsome, if_pos rfl]) ⟨h0, xs ++ byteCells b, ?_, fun b hbv => ?_, ?_⟩ (.inl ⟨fun hst => ?_, fun o' m' ho' hm' => ?_⟩) hnn) hd ?_⟩
  · rcases hb b hbv with h1 | h1
    · exact .inl (hlab b h1)
    · exact .inr ⟨h1, hlt b hbv⟩
  · rw [setK_eq]; exact ho
  · rw [setK_eq] at hbv; unfold rowL; rw [if_pos hbv]
  · rw [setK_eq]
    refine hcs.add hy (by simp) hlab hb (fun b hbn hbg => hg.block b (h.rs.dom b hbn) hbg) h.rs.dom fun b hbl => ?_
    unfold rowL
    split
    · rename_i hbv
      rcases hb b hbv with h1 | h1
      · exact (relab_k (hlab b h1)).symm
      · omega
    · rfl
  · obtain ⟨a0, c0, hs0, _⟩ := hown.slice
    rw [hs0] at hst; cases hst
  · rw [get_upd _ _ _ _ hsome, if_pos rfl] at ho'
    obtain rfl := Option.some.inj ho'
    obtain rfl := Option.some.inj hm'
    refine ⟨_, n, hk, rfl, by omega, fun e => ?_⟩
    rcases hsame with ⟨h1, _⟩ | h1
    · rw [setK_eq, h1]
    · omega
  · rw [hsl]
    refine .os k _ ad' c' hc1 hc3 fun o m ho' hm' => ?_
    have ho2 : get (upd s.σ k (.vec e 1 (n + b.size) (cs ++ byI b) own)) k = some o := ho'
    rw [get_upd _ _ _ _ hsome, if_pos rfl] at ho2
    obtain rfl := Option.some.inj ho2
    obtain rfl := Option.some.inj hm'
    exact ⟨Nat.le_refl _, fun _ => setK_eq κ k _⟩
end
end Go.VC
/- Regions with appends of texts to rows of bytes: no statement of a program. -/
set_option linter.unusedSimpArgs false
set_option linter.unusedVariables false
namespace Go.VC
open Go Go.RowKit
section
variable {β : Base} {w w' : World} {ω ω' : Lab} {κ κ' : Nat → Value} {σ σ' : Sto} {E : Env} {a : Act} {s : St} {P : Program}
/-- Is it an append of a text? -/
def isA (o : Oper) : Bool := match o.op with
  | .call c => match c.callee, c.argTypes.toList with
    | .builtin .append, [t, t'] => t != t'
    | _, _ => false
  | _ => false
def apS (P : Program) (o : Oper) (s : St) (K : St → Prop) : Prop := match o.op, o.dst with
  | .call c, some d => match c.callee, c.args.toList, c.argTypes.toList with
    | .builtin .append, [x, y], [t, t'] => match apOf P t, opd s.E x, opd s.E y with
      | some (e, 1, by_, zs), some (.c (.os k n)), some (.c (.im (.sc (.string b)))) => match get s.σ k with
        | some (.vec e' 1 n' cs o1) => P.underlying t' = some .string ∧ e' = e ∧ n' = n ∧ d < s.N ∧ n + b.size ≤ maxLen ∧ (n + b.size) * by_ ≤ 140737488355328 ∧ nnE k s.E = true ∧ K ⟨s.N, (d, .c (.os k (n + b.size))) :: s.E, upd s.σ k (.vec e 1 (n + b.size) (cs ++ byI b) o1)⟩
        | _ => False
      | _, _, _ => False
    | _, _, _ => False
  | _, _ => False
def wpS (P : Program) (o : Oper) (s : St) (K : St → Prop) : Prop := if isA o = true then apS P o s K else wpO P o s K
theorem wpS_ok {o : Oper} {K : St → Prop} {next : Act → World → Prop} {Q : Exit → Act → World → Prop} (h : wpS P o s K) (hr : RelE β s a w)
    (hn : ∀ s' a' w', K s' → RelE β s' a' w' → next a' w') : o.wp P a w next Q := by
  unfold wpS at h
  split at h
  · obtain ⟨ω, κ, hr⟩ := hr
    unfold apS at h
    split at h
    · rename_i c d hop hdst
      split at h
      · rename_i x y t t' hcal hargs htys
        have e1 : c.args = #[x, y] := by apply Array.ext'; simpa using hargs
        have e2 : c.argTypes = #[t, t'] := by apply Array.ext'; simpa using htys
        split at h
        · rename_i e by_ zs k n b hap hx hy
          split at h
          · rename_i e' n' cs o1 hk
            obtain ⟨htx, rfl, rfl, hd, h63, hby, hnn, h⟩ := h
            have hxv := opd_ok hr.env hx
            have hyv := opd_ok hr.env hy
            generalize hxe : a.eval x = xv at hxv
            generalize hye : a.eval y = yv at hyv
            cases hyv with
            | im _ _ hyv =>
              cases hyv
              cases hxv with
              | os _ _ ad' c' _ _ hh =>
                have hkkk := (hh _ _ hk rfl).2 rfl
                obtain ⟨v', w', g1, g2⟩ := hr.appendS (ty := o.type) hd hap htx hk b h63 hby hnn
                refine wp_value (v := v') (w' := w') ?_ (by rw [hdst]; exact hn _ _ _ h g2)
                rw [hkkk] at g1
                simp [execOp, hop, resolve, hcal, e1, e2, hxe, hye, invoke, builtin, g1]
          · exact h.elim
        · exact h.elim
      · exact h.elim
    · exact h.elim
  · exact wpO_ok h hr hn
def opsS (P : Program) (ops : Array Oper) : List Oper → St → (St → Prop) → Prop
  | [], s, K => K s
  | o :: r, s, K => gdP (gdOf ops s.E o) (wpS P o s fun s' => opsS P ops r s' K)
    (match o.dst with
      | some d => d < s.N ∧ opsS P ops r (s.put d (.tp [])) K
      | none => opsS P ops r s K) .mk .mk
theorem opsS_ok {ops : Array Oper} {Q : Exit → Act → World → Prop} : ∀ {l : List Oper} {s : St} {a : Act} {w : World} {K : St → Prop}, opsS P ops l s K → RelE β s a w →
    (∀ s' a' w', K s' → RelE β s' a' w' → Q .normal a' w') → wpList P ops Q l a w
  | [], s, a, w, K, h, hr, hn => hn _ _ _ h hr
  | o :: r, s, a, w, K, h, hr, hn => by
    obtain ⟨ω, κ, hr'⟩ := id hr
    unfold opsS gdP at h
    unfold wpList
    split at h
    · rename_i hg
      rw [if_pos (gdOf_ok hr'.env hg)]
      exact .inl (wpS_ok h hr fun s' a' w' hK hr'' => opsS_ok hK hr'' hn)
    · rename_i hg
      have hf := gdOf_ok hr'.env hg
      rw [if_neg (by rw [hf]; simp)]
      split at h
      · rename_i d hd
        rw [hd]
        exact opsS_ok h.2 ⟨ω, κ, hr'.put h.1 ⟨[], rfl, rfl, by simp⟩⟩ hn
      · rename_i hd
        rw [hd]
        exact opsS_ok h hr hn
    · exact h.elim
theorem Sm.regionS {id : Nat} {ops : Array Oper} {K : Exit → St → Prop} (h : opsS P ops ops.toList s (K .normal)) : Sm P (.region id ops false) s K := fun β a w hr =>
  wp_region_list (opsS_ok h hr fun s' a' w' h1 h2 => ⟨s', h1, h2⟩)
theorem opsS_nil {ops : Array Oper} {s : St} {K : St → Prop} : opsS P ops [] s K = K s := rfl
theorem opsS_cons {ops : Array Oper} {o : Oper} {r : List Oper} {s : St} {K : St → Prop} : opsS P ops (o :: r) s K = gdP (gdOf ops s.E o) (wpS P o s fun s' => opsS P ops r s' K) (match o.dst with
      | some d => d < s.N ∧ opsS P ops r (s.put d (.tp [])) K
      | none => opsS P ops r s K) .mk .mk := rfl
theorem opsS_congr {ops : Array Oper} {l : List Oper} {K : St → Prop} {s s' : St} (h : s = s') : opsS P ops l s K = opsS P ops l s' K := by rw [h]
attribute [congr] opsS_congr
theorem goOpsS {P : Program} {ops : Array Oper} {l : List Oper} {s : St} {K : St → Prop} (h : opsS P ops l s K) : opsS P ops l s K := h
end
/-- Run on, through appends of texts to bytes, to what must be told by hand: at most nine goals. -/
theorem RunS {F G R1 R2 R3 R4 R5 R6 R7 R8 R9 : Prop} (f : F) (r : Lf R1 (Lf R2 (Lf R3 (Lf R4 (Lf R5 (Lf R6 (Lf R7 (Lf R8 R9))))))))
    (d : F → Bx R1 → Bx R2 → Bx R3 → Bx R4 → Bx R5 → Bx R6 → Bx R7 → Bx R8 → Bx R9 → Lf G (Lf (Dd R1) (Lf (Dd R2) (Lf (Dd R3) (Lf (Dd R4) (Lf (Dd R5) (Lf (Dd R6) (Lf (Dd R7) (Lf (Dd R8) (Dd R9))))))))) := by
      intro fx r1 r2 r3 r4 r5 r6 r7 r8 r9
      refine Lf.mk ?_ ?_
      · repeat' (first
          | ((with_reducible refine Cont.keepK kt ?_); try simp only [keepE, memN, delN, ↓reduceIte, Nat.reduceEqDiff, Bool.false_eq_true])
          | (with_reducible refine Sm.seq ?_)
          | (with_reducible refine Sm.block ?_)
          | ((first | (with_reducible refine Sm.skip ?_) | (with_reducible refine Sm.exit ?_) | (with_reducible refine Sm.ret ?_)); try simp only [Kn, Kb, ↓reduceIte, Nat.reduceEqDiff])
          | (((first | (with_reducible refine Sm.regionS ?_) | (with_reducible refine Sm.drawK dn mixed (by decide +kernel) (by (simp only [List.take_succ_cons, List.take_zero, List.drop_succ_cons, List.drop_zero]); exact rfl) (by (simp only [List.take_succ_cons, List.take_zero, List.drop_succ_cons, List.drop_zero]); exact rfl) ?_) | (with_reducible refine Sm.drawT mixed (by decide +kernel) ?_) | (with_reducible refine RetK.any kz (by simp) ?_ ?_) | (with_reducible refine Sm.test ?_) | (with_reducible refine goOps ?_) | (with_reducible refine goOpsS ?_) | (with_reducible refine goDW ?_) | (with_reducible refine goQW ?_) | (with_reducible refine goOn ?_) | (with_reducible refine goGd ?_)) <;> simp -dsimp (maxSteps := 2000000) (disch := omega) only [vs, ↓Option.bind_some, ev1, ofV, scalarB, Kn, Kb, calleeOf, evLoad, ptr, evField, evFieldAddr, shift, ↓pt_at, ↓pt_at1, evExtract, evBin, evLen, evConv, cellsT, noS, Cell.has, Cell.hasN, Cell.anyN, toIV, toIV0, toIVs, ownC, srcM, Ob.own, Ob.esz, allSc, nilK, lenC, ownCell, isPtr, ptrNil, frzO, Cell.frz, Cell.keys, ↓reduceIte, reduceCtorEq, Nat.reduceEqDiff, Nat.reduceBEq, Nat.reduceBNe, Nat.reduceAdd, Nat.reduceMul, Nat.reduceSub, Nat.reduceLT, Nat.reduceLeDiff, Nat.reducePow, Int.reduceLT, Int.reduceLE, Int.reduceEq, Int.reduceNe, quietB, Nat.reduceMod, Int.reduceToNat, ne_eq, eq_self, exists_const, evBytes, byRow, byL, byStr_size, ifsz, ByteArray.size_append, Option.none_or, Option.some_or, evLook, keyD, opsS_nil, opsS_cons, wpS, isA, apS, bne_iff_ne, Bool.false_eq_true, fcx, fx]); try (with_reducible refine ⟨fun hq => ?_, fun hq => ?_⟩ <;> (try simp only [vh, ne_eq] at hq)))
          | ((with_reducible refine gdP_split (fun hq => ?_) (fun hq => ?_)) <;> ((try simp only [vh, ne_eq] at hq); simp -dsimp (maxSteps := 2000000) (disch := omega) only [vs, ↓Option.bind_some, ev1, ofV, scalarB, Kn, Kb, calleeOf, evLoad, ptr, evField, evFieldAddr, shift, ↓pt_at, ↓pt_at1, evExtract, evBin, evLen, evConv, cellsT, noS, Cell.has, Cell.hasN, Cell.anyN, toIV, toIV0, toIVs, ownC, srcM, Ob.own, Ob.esz, allSc, nilK, lenC, ownCell, isPtr, ptrNil, frzO, Cell.frz, Cell.keys, ↓reduceIte, reduceCtorEq, Nat.reduceEqDiff, Nat.reduceBEq, Nat.reduceBNe, Nat.reduceAdd, Nat.reduceMul, Nat.reduceSub, Nat.reduceLT, Nat.reduceLeDiff, Nat.reducePow, Int.reduceLT, Int.reduceLE, Int.reduceEq, Int.reduceNe, quietB, Nat.reduceMod, Int.reduceToNat, ne_eq, eq_self, exists_const, evBytes, byRow, byL, byStr_size, ifsz, ByteArray.size_append, Option.none_or, Option.some_or, evLook, keyD, fcx, hq, fx]))
          | (with_reducible refine ⟨(by first | omega | (simp only [maxLen]; omega)), ?_⟩)
          | fail)
        all_goals ((repeat revert hq); first | (with_reducible exact r1.h) | (with_reducible exact r2.h) | (with_reducible exact r3.h) | (with_reducible exact r4.h) | (with_reducible exact r5.h) | (with_reducible exact r6.h) | (with_reducible exact r7.h) | (with_reducible exact r8.h) | (with_reducible exact r9.h))
      · (refine ⟨?_, ?_, ?_, ?_, ?_, ?_, ?_, ?_, ?_⟩) <;> first | (with_reducible exact Dd.t) | (with_reducible exact Dd.mk)) : G :=
  (d f ⟨r.l⟩ ⟨r.r.l⟩ ⟨r.r.r.l⟩ ⟨r.r.r.r.l⟩ ⟨r.r.r.r.r.l⟩ ⟨r.r.r.r.r.r.l⟩ ⟨r.r.r.r.r.r.r.l⟩ ⟨r.r.r.r.r.r.r.r.l⟩ ⟨r.r.r.r.r.r.r.r.r⟩).l
end Go.VC
