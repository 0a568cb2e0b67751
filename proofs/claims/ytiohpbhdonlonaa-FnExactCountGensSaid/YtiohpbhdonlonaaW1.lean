/- Operations that change no memory: what they come to over abstract values, and that the machine agrees. -/
import Derived.Test.YtiohpbhdonlonaaW0
import Derived.Laws.Slices
import Derived.Laws.Cells
import Derived.Laws.Strings
import Derived.WalkKit
set_option linter.unusedSimpArgs false
set_option linter.unusedVariables false
namespace Go.VC
open Go Go.RowKit
abbrev Env := List (Nat × TV)

def ofV : Value → Option TV
  | .slice none 0 0 => some (.c .nl)
  | v => if scalarB v then some (.c (.im (.sc v))) else none
def opd (E : Env) : Operand → Option TV
  | .tmp t => get E t
  | .const v => ofV v
  | .func f => some (.c (.im (.fn f [])))
  | .global _ => none

section
variable {w : World} {ω : Lab} {κ : Nat → Value} {σ : Sto} {E : Env} {a : Act}
theorem ofV_ok {v : Value} {r : TV} (h : ofV v = some r) : RT w ω κ σ r v := by
  unfold ofV at h
  split at h
  · obtain rfl := Option.some.inj h; exact .nl
  · split at h
    · rename_i hs; obtain rfl := Option.some.inj h; exact .im _ _ (.sc _ hs)
    · cases h
theorem opd_ok (hE : EnvOk w ω κ σ E a.tmps) {x : Operand} {r : TV} (h : opd E x = some r) : RT w ω κ σ r (a.eval x) := by
  cases x with
  | tmp t => exact (hE t r h).2
  | const v => exact ofV_ok h
  | func f => obtain rfl := Option.some.inj h; exact .im _ _ (.fn f [] [] rfl (by simp))
  | global g => cases h

def aggB (P : Program) (t : TypeId) : Bool := match P.underlying t with | some (.struct _) | some (.array _ _) => true | _ => false
def szOf (P : Program) (t : TypeId) : Option Nat := if (P.underlying t).isSome then (P.info? t).map (·.size) else none

/-- The part of a value of n cells from cell off on. -/
def sub (agg : Bool) (cs : List Cell) (off n : Nat) : Option TV :=
  if agg then (if off + n ≤ cs.length then some (.ag ((cs.drop off).take n)) else none) else (cs[off]?).map .c

/-- A cell of an own row. -/
def ownCell (k j : Nat) : IV → Cell
  | .sc v => .im (.sc v)
  | _ => .ns k j
def ownCells (k j : Nat) : List IV → List Cell
  | [] => []
  | x :: r => ownCell k j x :: ownCells k (j + 1) r
theorem ownCells_get (k : Nat) : ∀ (cs : List IV) (j i : Nat), (ownCells k j cs)[i]? = (cs[i]?).map (ownCell k (j + i))
  | [], j, i => by simp [ownCells]
  | x :: r, j, 0 => by simp [ownCells]
  | x :: r, j, i + 1 => by
    rw [ownCells, List.getElem?_cons_succ, List.getElem?_cons_succ, ownCells_get k r (j + 1) i]
    congr 2; omega
/-- The cells that a pointer leads to, and where it stands in them. -/
def ptr (σ : Sto) : Cell → Option (List Cell × Nat)
  | .rf k off => match get σ k with | some (.box _ cs) => some (cs, off) | _ => none
  | .rv k len off => match get σ k with
    | some (.vec _ _ m cs own) => if m = len then some (if own then ownCells k 0 cs else cs.map .im, off) else none
    | some (.row m cs) => if m = len then some (ownCells k 0 cs, off) else none
    | _ => none
  | .im (.pt cs) => some (cs.map .im, 0)
  | _ => none

theorem RO_sc {v u : Value} {S : Nat → Prop} (h : RO w (.sc v) u S) : u = v ∧ scalarB v = true := by
  cases h with | sc _ _ h => exact ⟨rfl, h⟩
/-- A row's value, its cells, one by one. -/
theorem row_cells (hS : RS w ω κ σ) {k m : Nat} {o : Ob} (hg : get σ k = some o) (hm : o.len? = some m) {b n c : Nat} (hk : κ k = .slice (some ⟨b, 0, none⟩) n c) (hc0 : 0 < c) :
    ∀ cs own, (o = .row m cs ∧ own = true ∨ ∃ t e, o = .vec t e m cs own) → ∀ j x, (if own then ownCells k 0 cs else cs.map .im)[j]? = some x → ∃ u, w.cell? ⟨b, j, none⟩ = some u ∧ RC w ω κ σ x u ∧ u.oneCell' = true := by
  intro cs own ho j x hx
  have hown : own = true → (∃ y, cs[j]? = some y ∧ x = ownCell k j y) := fun h => by
    rw [if_pos h, ownCells_get] at hx
    obtain ⟨y, hy, rfl⟩ := Option.map_eq_some_iff.1 hx
    exact ⟨y, hy, by simp⟩
  have hout : ∀ y u S, RO w y u S → w.cell? ⟨b, j, none⟩ = some u → RC w ω κ σ (ownCell k j y) u := fun y u S hr hc => by
    have hns : RC w ω κ σ (.ns k j) u := .ns k j u fun o' m' ho' hm' => ⟨b, n, c, hk, hc0, hc⟩
    cases y with
    | sc v =>
      obtain ⟨rfl, h⟩ := RO_sc hr
      exact .im _ _ (.sc _ h)
    | _ => exact hns
  have h := hS.ob k o hg
  rcases ho with ⟨rfl, rfl⟩ | ⟨t, e, rfl⟩
  · obtain ⟨S, h1, h2⟩ := h
    obtain ⟨y, hy, rfl⟩ := hown rfl
    rw [hk] at h1
    cases h1 with
    | z => simp at hy
    | sl _ _ _ t arr _ Ss _ h3 _ h4 h5 h6 h7 =>
      have hj := (List.getElem?_eq_some_iff.1 hy).1
      have hc : w.cell? ⟨b, j, none⟩ = some (arr.getD j undef) := by
        rw [cell_row h3]; simp [Array.getD, show j < arr.size by omega]
      exact ⟨_, hc, hout y _ _ (h7 j y hy) hc, (h7 j y hy).one⟩
  · obtain ⟨h0, xs, h1, h2, h3⟩ := h
    have hcell := h1.cells _ _ _ hk
    cases own with
    | false =>
      have h3 : All2 (RI w ω) cs xs := h3
      simp only [Bool.false_eq_true, if_false, List.getElem?_map] at hx
      obtain ⟨y, hy, rfl⟩ := Option.map_eq_some_iff.1 hx
      obtain ⟨u, hu, hr⟩ := h3.get hy
      have := hcell j u hu
      rw [addr_add_lit] at this
      exact ⟨u, this, .im _ _ hr, hr.one⟩
    | true =>
      have h3 : OwnC w ω k (rowB (κ k)) cs xs := h3
      obtain ⟨y, hy, rfl⟩ := hown rfl
      obtain ⟨h4, Ss, h5, _⟩ := h3
      obtain ⟨u, hu⟩ : ∃ u, xs[j]? = some u := ⟨xs[j]'(by rw [← h4]; exact (List.getElem?_eq_some_iff.1 hy).1), by simp⟩
      have := hcell j u hu
      rw [addr_add_lit] at this
      exact ⟨u, this, hout y u _ (h5 j y u hy hu) this, (h5 j y u hy hu).one⟩

theorem ownCells_len (k : Nat) : ∀ (cs : List IV) (j : Nat), (ownCells k j cs).length = cs.length
  | [], _ => rfl
  | _ :: r, j => by rw [ownCells, List.length_cons, List.length_cons, ownCells_len k r]
theorem rv_cap (hS : RS w ω κ σ) {k m : Nat} {o : Ob} (hg : get σ k = some o) (hm : o.len? = some m) {b n c : Nat} (hk : κ k = .slice (some ⟨b, 0, none⟩) n c) {own : Bool} {cs : List IV}
    (hl : 0 < (if own then ownCells k 0 cs else cs.map .im).length) : ∀ cs' own', cs' = cs → own' = own → (o = .row m cs ∧ own = true ∨ ∃ t e, o = .vec t e m cs own) → 0 < c := by
  intro _ _ _ _ ho
  have hl : 0 < cs.length := by
    cases own with
    | true => simpa [ownCells_len] using hl
    | false => simpa using hl
  have h := hS.ob k o hg
  rcases ho with ⟨rfl, rfl⟩ | ⟨t, e, rfl⟩
  · obtain ⟨S, h1, _⟩ := h
    rw [hk] at h1
    cases h1 with
    | z => simp [ownCells] at hl
    | sl _ _ _ _ _ _ _ _ _ hc => exact hc
  · obtain ⟨h0, xs, h1, h2, h3⟩ := h
    have hlx : cs.length = xs.length := by cases own <;> exact h3.1
    rcases h1.2 with ⟨h4, a, hv⟩ | ⟨g, cap, cur, hv, hc, _⟩
    · have := h1.1; rw [h4] at this; omega
    · rw [hk] at hv
      injection hv with _ _ q
      omega
theorem ptr_ok (hS : RS w ω κ σ) {x : Cell} {v : Value} {cs : List Cell} {off : Nat} (h : ptr σ x = some (cs, off)) (hx : RC w ω κ σ x v) :
    ∃ a, v = .pointer (some a) ∧ ∀ j c, cs[off + j]? = some c → ∃ u, w.cell? (a.add j) = some u ∧ RC w ω κ σ c u ∧ u.oneCell' = true := by
  unfold ptr at h
  split at h
  · rename_i k off'
    split at h
    · rename_i t cs' hg
      obtain ⟨rfl, rfl⟩ := Prod.mk.inj (Option.some.inj h)
      obtain ⟨b, vs, h1, _, h3, h4, h5, _⟩ := hS.ob k _ hg
      cases hx with
      | rf _ _ b' hb' =>
        have : b = b' := by rw [h1] at hb'; simpa using hb'
        subst this
        refine ⟨_, rfl, fun j c hc => ?_⟩
        obtain ⟨u, hu, hr⟩ := h4.get hc
        refine ⟨u, ?_, hr, h5 u (List.mem_of_getElem? hu)⟩
        rw [Addr.add_lit, cell_row h3]
        simpa using hu
    · cases h
  · rename_i k len off'
    split at h
    · rename_i t e m cs' own hg
      split at h
      · rename_i hl
        obtain ⟨rfl, rfl⟩ := Prod.mk.inj (Option.some.inj h)
        cases hx with
        | rv _ _ _ a ha =>
          obtain ⟨_, h3⟩ := ha _ m hg rfl
          obtain ⟨b, n', c', hk, rfl⟩ := h3 hl
          refine ⟨_, rfl, fun j c hc => ?_⟩
          rw [Addr.add_lit]
          exact row_cells hS hg rfl hk (rv_cap hS hg rfl hk (List.length_pos_of_mem (List.mem_of_getElem? hc)) cs' own rfl rfl (.inr ⟨t, e, rfl⟩)) cs' own (.inr ⟨t, e, rfl⟩) _ c hc
      · cases h
    · rename_i m cs' hg
      split at h
      · rename_i hl
        obtain ⟨rfl, rfl⟩ := Prod.mk.inj (Option.some.inj h)
        cases hx with
        | rv _ _ _ a ha =>
          obtain ⟨_, h3⟩ := ha _ m hg rfl
          obtain ⟨b, n', c', hk, rfl⟩ := h3 hl
          refine ⟨_, rfl, fun j c hc => ?_⟩
          rw [Addr.add_lit]
          exact row_cells hS hg rfl hk (rv_cap hS hg rfl hk (List.length_pos_of_mem (List.mem_of_getElem? hc)) cs' true rfl rfl (.inl ⟨rfl, rfl⟩)) cs' true (.inl ⟨rfl, rfl⟩) _ c hc
      · cases h
    · cases h
  · rename_i cs'
    obtain ⟨rfl, rfl⟩ := Prod.mk.inj (Option.some.inj h)
    cases hx with
    | im _ _ hx =>
      cases hx with
      | pt _ a vs _ hcell hr =>
        refine ⟨a, rfl, fun j c hc => ?_⟩
        rw [List.getElem?_map] at hc
        obtain ⟨x, hx, rfl⟩ := Option.map_eq_some_iff.1 hc
        rw [Nat.zero_add] at hx
        exact ⟨vs j, hcell j (List.getElem?_eq_some_iff.1 hx).1, .im _ _ (hr j x hx), (hr j x hx).one⟩
  · cases h

theorem run_isAgg {P : Program} {t : TypeId} (h : (P.underlying t).isSome = true) (w : World) : (isAgg t).run P w = .ok (aggB P t) w := by
  obtain ⟨d, hd⟩ := Option.isSome_iff_exists.1 h
  unfold isAgg aggB
  simp only [hd]
  simp [run_underlying hd]
  cases d <;> rfl
theorem run_sizeOf {P : Program} {t : TypeId} {n : Nat} (h : szOf P t = some n) (w : World) : (sizeOf t).run P w = .ok n w := by
  unfold szOf at h
  split at h
  · obtain ⟨i, hi, rfl⟩ := Option.map_eq_some_iff.1 h
    simp [sizeOf, typeInfo, hi]
  · cases h
theorem szOf_und {P : Program} {t : TypeId} {n : Nat} (h : szOf P t = some n) : (P.underlying t).isSome = true := by
  unfold szOf at h
  split at h
  · assumption
  · cases h

/-- A load of a variable of type t. -/
def evLoad (P : Program) (σ : Sto) (t : TypeId) (x : TV) : Option TV :=
  match x with
  | .c p => (ptr σ p).bind fun q => (szOf P t).bind fun n => sub (aggB P t) q.1 q.2 n
  | _ => none
theorem sub_ok {cs : List Cell} {off n : Nat} {agg : Bool} {r : TV} (h : sub agg cs off n = some r) {f : Nat → Value} (hf : ∀ j c, cs[off + j]? = some c → RC w ω κ σ c (f j) ∧ (f j).oneCell' = true) :
    (agg = true ∧ off + n ≤ cs.length ∧ RT w ω κ σ r (.agg ((List.range n).map f).toArray)) ∨ (agg = false ∧ off < cs.length ∧ RT w ω κ σ r (f 0)) := by
  unfold sub at h
  split at h
  · rename_i ha
    split at h
    · rename_i hl
      obtain rfl := Option.some.inj h
      refine .inl ⟨ha, hl, _, rfl, ⟨?_, fun j x y hx hy => ?_⟩, fun u hu => ?_⟩
      · simp; omega
      · have hjn : j < n := by
          have := (List.getElem?_eq_some_iff.1 hx).1
          simp at this; omega
        rw [List.getElem?_take_of_lt hjn, List.getElem?_drop] at hx
        have : y = f j := by simpa [hjn] using hy.symm
        subst this
        exact (hf j x hx).1
      · obtain ⟨j, hj, rfl⟩ := List.mem_map.1 hu
        have hjn := List.mem_range.1 hj
        exact (hf j cs[off + j] (by simp)).2
    · cases h
  · rename_i ha
    obtain ⟨c, hc, rfl⟩ := Option.map_eq_some_iff.1 h
    exact .inr ⟨by simpa using ha, (List.getElem?_eq_some_iff.1 hc).1, (hf 0 c hc).1⟩

theorem evLoad_ok {P : Program} (hS : RS w ω κ σ) {t : TypeId} {x r : TV} {v : Value} (h : evLoad P σ t x = some r) (hx : RT w ω κ σ x v) :
    ∃ u, (Instr.loadAt t v).run P w = .ok u w ∧ RT w ω κ σ r u := by
  unfold evLoad at h
  split at h
  · rename_i p
    obtain ⟨⟨cs, off⟩, hp, h⟩ := Option.bind_eq_some_iff.1 h
    obtain ⟨n, hn, h⟩ := Option.bind_eq_some_iff.1 h
    have ht := szOf_und hn
    obtain ⟨a, rfl, hc⟩ := ptr_ok hS hp hx
    have hf : ∀ j c, cs[off + j]? = some c → RC w ω κ σ c ((w.cell? (a.add j)).getD undef) ∧ ((w.cell? (a.add j)).getD undef).oneCell' = true := fun j c hcj => by
      obtain ⟨u, h1, h2, h3⟩ := hc j c hcj
      rw [h1]; exact ⟨h2, h3⟩
    rcases sub_ok h hf with ⟨ha, hl, hr⟩ | ⟨ha, hl, hr⟩
    · refine ⟨_, ?_, hr⟩
      have hcells : (loadCells a n).run P w = .ok ((List.range n).map fun j => (w.cell? (a.add j)).getD undef).toArray w := by
        have := run_loadCells_list (P := P) w a ((List.range n).map fun j => (w.cell? (a.add j)).getD undef) fun j u hu => by
          rw [List.getElem?_map] at hu
          obtain ⟨i, hi, rfl⟩ := Option.map_eq_some_iff.1 hu
          obtain ⟨hjn, hij⟩ := List.getElem?_eq_some_iff.1 hi
          simp at hij hjn
          subst hij
          obtain ⟨u, h1, _⟩ := hc j cs[off + j] (by simp)
          rw [h1]; rfl
        simpa using this
      simp [Instr.loadAt, Instr.sureAddr, loadVar, run_isAgg ht, ha, run_sizeOf hn, hcells]
    · obtain ⟨u, h1, h2, h3⟩ := hc 0 cs[off] (by simp [hl])
      rw [h1] at hr
      refine ⟨u, ?_, hr⟩
      simp [Instr.loadAt, Instr.sureAddr, loadVar, run_isAgg ht, ha]
      simp [Addr.add] at h1
      rw [h1]
  · cases h


/-- A struct type's field: where it lies, its type. -/
def fldOf (P : Program) (s : TypeId) (f : Nat) : Option (Nat × TypeId) :=
  match P.underlying s with
  | some (.struct fs) => (fs[f]?).map fun x => (x.offset, x.type)
  | _ => none
theorem fldOf_some {P : Program} {s : TypeId} {f o : Nat} {t : TypeId} (h : fldOf P s f = some (o, t)) : ∃ fs x, P.underlying s = some (.struct fs) ∧ fs[f]? = some x ∧ x.offset = o ∧ x.type = t := by
  unfold fldOf at h
  split at h
  · rename_i fs hu
    obtain ⟨x, hx, he⟩ := Option.map_eq_some_iff.1 h
    obtain ⟨rfl, rfl⟩ := Prod.mk.inj he
    exact ⟨fs, x, hu, hx, rfl, rfl⟩
  · cases h
def evField (P : Program) (s : TypeId) (x : TV) (f : Nat) : Option TV :=
  match x with
  | .ag cs => (fldOf P s f).bind fun q => (szOf P q.2).bind fun n => sub (aggB P q.2) cs q.1 n
  | _ => none
theorem evField_ok {P : Program} {s : TypeId} {x r : TV} {f : Nat} {v : Value} (h : evField P s x f = some r) (hx : RT w ω κ σ x v) :
    ∃ u, (Instr.field s v f).run P w = .ok u w ∧ RT w ω κ σ r u := by
  unfold evField at h
  split at h
  · rename_i cs
    obtain ⟨⟨o, t⟩, hf, h⟩ := Option.bind_eq_some_iff.1 h
    obtain ⟨n, hn, h⟩ := Option.bind_eq_some_iff.1 h
    obtain ⟨fs, fx, hu, hfx, rfl, rfl⟩ := fldOf_some hf
    have ht := szOf_und hn
    obtain ⟨vs, rfl, h1, h2⟩ := hx
    have hc : ∀ j c, cs[fx.offset + j]? = some c → RC w ω κ σ c (vs.getD (fx.offset + j) undef) ∧ (vs.getD (fx.offset + j) undef).oneCell' = true := fun j c hcj => by
      obtain ⟨u, hu1, hu2⟩ := h1.get hcj
      have : vs.getD (fx.offset + j) undef = u := by simp [List.getD, hu1]
      rw [this]
      exact ⟨hu2, h2 u (List.mem_of_getElem? hu1)⟩
    rcases sub_ok h hc with ⟨ha, hl, hr⟩ | ⟨ha, hl, hr⟩
    · refine ⟨_, ?_, hr⟩
      have hlen : vs.length = cs.length := h1.1.symm
      simp only [] at hl
      have this : List.take n (List.drop fx.offset vs) = List.map (fun j => vs[fx.offset + j]?.getD undef) (List.range n) := by
        apply List.ext_getElem?
        intro j
        by_cases hj : j < n
        · rw [List.getElem?_take_of_lt hj, List.getElem?_drop, List.getElem?_map, List.getElem?_range hj]
          simp [show fx.offset + j < vs.length by omega]
        · rw [List.getElem?_eq_none (by simp; omega), List.getElem?_eq_none (by simp; omega)]
      simp [Instr.field, run_underlying hu, hfx, part, asAgg, run_isAgg ht, ha, run_sizeOf hn, this]
    · simp only [Nat.add_zero] at hr
      refine ⟨_, ?_, hr⟩
      simp only [] at hl
      have hlen : fx.offset < vs.length := by rw [← h1.1]; exact hl
      simp [Instr.field, run_underlying hu, hfx, part, asAgg, run_isAgg ht, ha, List.getD, hlen]
  · cases h

/-- A pointer n cells further. -/
def shift (x : Cell) (n : Nat) : Option Cell :=
  match x with
  | .rf k off => some (.rf k (off + n))
  | .rv k len off => some (.rv k len (off + n))
  | .im (.pt cs) => some (.im (.pt (cs.drop n)))
  | _ => none
theorem shift_ok {x y : Cell} {n : Nat} {v : Value} (h : shift x n = some y) (hx : RC w ω κ σ x v) : ∃ a, v = .pointer (some a) ∧ RC w ω κ σ y (.pointer (some (a.add n))) := by
  unfold shift at h
  split at h
  · obtain rfl := Option.some.inj h
    cases hx with
    | rf k off b hk => exact ⟨_, rfl, by rw [Addr.add_lit]; exact .rf _ _ _ hk⟩
  · obtain rfl := Option.some.inj h
    cases hx with
    | rv k len off a ha =>
      refine ⟨_, rfl, .rv _ _ _ _ fun o m hg hm => ?_⟩
      obtain ⟨h1, h2⟩ := ha o m hg hm
      refine ⟨h1, fun hl => ?_⟩
      obtain ⟨b, n', c, h3, rfl⟩ := h2 hl
      exact ⟨b, n', c, h3, by rw [Addr.add_lit]⟩
  · obtain rfl := Option.some.inj h
    cases hx with
    | im _ _ hx =>
      cases hx with
      | pt cs a vs hd hc hr =>
        refine ⟨_, rfl, .im _ _ (.pt _ _ (fun j => vs (n + j)) (fun h => by rw [addr_add_block]; exact hd (by rintro rfl; simp at h)) (fun j hj => ?_) fun j x hj => ?_)⟩
        · rw [addr_add_add]; exact hc _ (by simp at hj; omega)
        · rw [List.getElem?_drop] at hj; exact hr _ _ hj
  · cases h
def evFieldAddr (P : Program) (s : TypeId) (x : TV) (f : Nat) : Option TV :=
  match x with
  | .c p => (fldOf P s f).bind fun q => (szOf P q.2).bind fun n => if n = 0 then none else (shift p q.1).map .c
  | _ => none
theorem evFieldAddr_ok {P : Program} {s : TypeId} {x r : TV} {f : Nat} {v : Value} (h : evFieldAddr P s x f = some r) (hx : RT w ω κ σ x v) :
    ∃ u, (Instr.fieldAt s v f).run P w = .ok u w ∧ RT w ω κ σ r u := by
  unfold evFieldAddr at h
  split at h
  · obtain ⟨⟨o, t⟩, hf, h⟩ := Option.bind_eq_some_iff.1 h
    obtain ⟨n, hn, h⟩ := Option.bind_eq_some_iff.1 h
    obtain ⟨fs, fx, hu, hfx, rfl, rfl⟩ := fldOf_some hf
    split at h
    · cases h
    · rename_i hn0
      obtain ⟨y, hy, rfl⟩ := Option.map_eq_some_iff.1 h
      obtain ⟨a, rfl, hr⟩ := shift_ok hy hx
      refine ⟨_, ?_, hr⟩
      simp [Instr.fieldAt, run_underlying hu, hfx, Instr.sureAddr, fieldPlace, run_sizeOf hn, hn0]
  · cases h

/-- A slice type's element type, its size. -/
def elOf (P : Program) (t : TypeId) : Option (TypeId × Nat) :=
  match P.underlying t with
  | some (.slice e) => (szOf P e).map fun n => (e, n)
  | _ => none
theorem elOf_some {P : Program} {t e : TypeId} {n : Nat} (h : elOf P t = some (e, n)) : P.underlying t = some (.slice e) ∧ szOf P e = some n ∧ P.elem t = e := by
  unfold elOf at h
  split at h
  · rename_i e' hu
    obtain ⟨m, hm, he⟩ := Option.map_eq_some_iff.1 h
    obtain ⟨rfl, rfl⟩ := Prod.mk.inj he
    exact ⟨hu, hm, by simp [Program.elem, hu]⟩
  · cases h
def evIndexAddr (P : Program) (σ : Sto) (t : TypeId) (x i : TV) : Option TV :=
  match x, i with
  | .c (.im (.sl n cs)), .c (.im (.sc (.int _ i))) => (elOf P t).bind fun q => if 0 ≤ i ∧ i < n then some (.c (.im (.pt (cs.drop (i.toNat * q.2))))) else none
  | .c (.ik _ n cs), .c (.im (.sc (.int _ i))) => (elOf P t).bind fun q => if 0 ≤ i ∧ i < n then some (.c (.im (.pt (cs.drop (i.toNat * q.2))))) else none
  | .c (.os k n), .c (.im (.sc (.int _ i))) => (elOf P t).bind fun q =>
    match (get σ k).bind Ob.len? with
    | some m => if m = n then (if 0 ≤ i ∧ i < n then some (.c (.rv k n (i.toNat * q.2))) else none) else none
    | _ => none
  | _, _ => none
theorem indexAddr_im {P : Program} {t : TypeId} {n : Nat} {cs : List IV} {kk : IntKind} {ii : Int} {r : TV} {v u : Value} (h : ((elOf P t).bind fun q => if 0 ≤ ii ∧ ii < n then some (.c (.im (.pt (cs.drop (ii.toNat * q.2))))) else none) = some r)
    (hx : RI w ω (.sl n cs) v) (hi : RT w ω κ σ (.c (.im (.sc (.int kk ii)))) u) : ∃ y, (Instr.indexAt t v u).run P w = .ok y w ∧ RT w ω κ σ r y := by
  obtain ⟨⟨e, sz⟩, he, h⟩ := Option.bind_eq_some_iff.1 h
  obtain ⟨h1, h2, h3⟩ := elOf_some he
  split at h
  · rename_i hb
    obtain rfl := Option.some.inj h
    cases hi with
    | im _ _ hi =>
      cases hi with
      | sc _ _ =>
        cases hx with
        | slnil => simp at hb; omega
        | sl _ c _ a vs hd hn hm hcell hr =>
          refine ⟨_, ?_, .im _ _ (.pt _ (a.add (ii.toNat * sz)) (fun j => vs (ii.toNat * sz + j)) (fun h => by rw [addr_add_block]; exact hd (by rintro rfl; simp at h)) (fun j hj => ?_) fun j x hj => ?_)⟩
          · rw [run_indexAt_slice (h := by rw [h3]; exact h1), if_pos (by simpa using hb), h3, run_sizeOf h2]; rfl
          · rw [addr_add_add]; exact hcell _ (by simp at hj; omega)
          · rw [List.getElem?_drop] at hj; exact hr _ _ hj
  · cases h
theorem evIndexAddr_ok {P : Program} (hS : RS w ω κ σ) {t : TypeId} {x i r : TV} {v u : Value} (h : evIndexAddr P σ t x i = some r) (hx : RT w ω κ σ x v) (hi : RT w ω κ σ i u) :
    ∃ y, (Instr.indexAt t v u).run P w = .ok y w ∧ RT w ω κ σ r y := by
  unfold evIndexAddr at h
  split at h
  · cases hx with | im _ _ hx => exact indexAddr_im h hx hi
  · cases hx with | ik _ _ _ _ hx => exact indexAddr_im h hx hi
  · rename_i k n kk ii
    obtain ⟨⟨e, sz⟩, he, h⟩ := Option.bind_eq_some_iff.1 h
    obtain ⟨h1, h2, h3⟩ := elOf_some he
    split at h
    · rename_i m hm
      obtain ⟨o, hg, hm⟩ := Option.bind_eq_some_iff.1 hm
      split at h
      · rename_i hl
        subst hl
        split at h
        · rename_i hb
          obtain rfl := Option.some.inj h
          cases hi with
          | im _ _ hi =>
            cases hi with
            | sc _ _ =>
              cases hx with
              | os _ _ a c hnc _ ha =>
                have hk := (ha _ _ hg hm).2 rfl
                obtain ⟨g, rfl⟩ : ∃ g, a = some ⟨g, 0, none⟩ := by
                  have hob := hS.ob k o hg
                  cases o with
                  | box => cases hm
                  | vec t' e' n' cs own =>
                    obtain rfl := Option.some.inj hm
                    obtain ⟨h0, xs, how, _⟩ := hob
                    rw [hk] at how
                    rcases how.2 with ⟨hv, hm⟩ | ⟨g, cap, cur, hv, _⟩
                    · omega
                    · injection hv with hv1 hv2 hv3
                      exact ⟨g, hv1⟩
                  | row n' cs =>
                    obtain rfl := Option.some.inj hm
                    obtain ⟨S, hr, _⟩ := hob
                    rw [hk] at hr
                    cases hr with
                    | z => simp at hb; omega
                    | sl _ _ g => exact ⟨g, rfl⟩
                refine ⟨_, ?_, .rv _ _ _ (⟨g, 0 + ii.toNat * sz, none⟩ : Addr) fun o' m' hg' hm' => ?_⟩
                · rw [run_indexAt_slice (h := by rw [h3]; exact h1), if_pos (by simpa using hb), h3, run_sizeOf h2]
                  simp [Result.andThen, Addr.add_lit]
                · rw [hg] at hg'
                  obtain rfl := Option.some.inj hg'
                  rw [hm] at hm'
                  obtain rfl := Option.some.inj hm'
                  exact ⟨Nat.le_refl _, fun _ => ⟨g, _, _, hk, by simp⟩⟩
        · cases h
      · cases h
    · cases h
  · cases h
end
end Go.VC
