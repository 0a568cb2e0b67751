/- More operations that change no memory. -/
import Derived.Test.YtiohpbhdonlonaaW1
import Derived.Laws.Tables
import Derived.WideLaws
set_option linter.unusedSimpArgs false
set_option linter.unusedVariables false
namespace Go.VC
open Go Go.RowKit
section
variable {w : World} {ω : Lab} {κ : Nat → Value} {σ : Sto} {E : Env} {a : Act}

theorem RC.one {x : Cell} {v : Value} (h : RC w ω κ σ x v) (hb : x ≠ .bad) (hn : x.anyN = false) : v.oneCell' = true := by
  cases h with
  | im _ _ h => exact h.one
  | bad => exact absurd rfl hb
  | ns => cases hn
  | _ => rfl
/-- The cells of a value that is known. -/
def cellsT : TV → Option (List Cell)
  | .c .bad => none
  | .c x => if x.anyN then none else some [x]
  | .ag cs => if anyNL cs then none else some cs
  | .tp _ => none
theorem cells_one {v : Value} (h : v.oneCell' = true) : v.cells = #[v] := by cases v <;> first | rfl | (simp [Value.oneCell'] at h)
theorem cellsT_ok {x : TV} {v : Value} {cs : List Cell} (h : cellsT x = some cs) (hx : RT w ω κ σ x v) : All2 (RC w ω κ σ) cs v.cells.toList ∧ (∀ u ∈ v.cells.toList, u.oneCell' = true) ∧ anyNL cs = false := by
  unfold cellsT at h
  split at h
  · cases h
  · rename_i x hb
    split at h
    · cases h
    · rename_i hn
      have hn : x.anyN = false := by simpa using hn
      obtain rfl := Option.some.inj h
      have h1 : v.oneCell' = true := RC.one hx (fun e => hb (by rw [e])) hn
      rw [cells_one h1]
      refine ⟨⟨rfl, fun j y z hy hz => ?_⟩, by simp [h1], by simp [anyNL, hn]⟩
      cases j with
      | zero => simp at hy hz; subst hy; subst hz; exact hx
      | succ j => simp at hy
  · split at h
    · cases h
    · rename_i hn
      obtain rfl := Option.some.inj h
      obtain ⟨vs, rfl, h1, h2⟩ := hx
      exact ⟨h1, h2, by simpa using hn⟩
  · cases h

def ofC (v : Value) : Cell := match ofV v with | some (.c x) => x | _ => .bad
theorem ofC_ok (v : Value) : RC w ω κ σ (ofC v) v := by
  unfold ofC
  split
  · rename_i x h; exact ofV_ok h
  · exact .bad v
def setL {α : Type} (cs : List α) (off : Nat) : List α → List α
  | [] => cs
  | x :: r => setL (cs.set off x) (off + 1) r
theorem All2.setL {α β : Type} {R : α → β → Prop} {news : List α} {vs : List β} (h : All2 R news vs) : ∀ {cs : List α} {ys : List β} (off : Nat), All2 R cs ys → All2 R (setL cs off news) (setL ys off vs) := by
  induction news generalizing vs with
  | nil =>
    intro cs ys off hc
    have : vs = [] := List.eq_nil_of_length_eq_zero h.1.symm
    subst this; exact hc
  | cons x r ih =>
    intro cs ys off hc
    cases vs with
    | nil => simp [All2] at h
    | cons v vs =>
      have hh : R x v := h.2 0 x v rfl rfl
      have ht : All2 R r vs := ⟨by simpa using h.1, fun j y z hy hz => h.2 (j + 1) y z hy hz⟩
      exact ih ht (off + 1) (hc.set off hh)
theorem setL_len {α : Type} (news cs : List α) (off : Nat) : (setL cs off news).length = cs.length := by
  induction news generalizing cs off with
  | nil => rfl
  | cons x r ih => simp [setL, ih]
theorem setL_mem {α : Type} {news cs : List α} {off : Nat} {u : α} (h : u ∈ setL cs off news) : u ∈ cs ∨ u ∈ news := by
  induction news generalizing cs off with
  | nil => exact .inl h
  | cons x r ih =>
    rcases ih h with h | h
    · rcases List.mem_or_eq_of_mem_set h with h | h
      · exact .inl h
      · exact .inr (by simp [h])
    · exact .inr (by simp [h])
theorem foldl_setL (l : List Value) : ∀ (k off : Nat) (cs : Array Value), ((l.zipIdx k).foldl (fun cs (p : Value × Nat) => cs.setIfInBounds (off + p.2) p.1) cs).toList = setL cs.toList (off + k) l := by
  induction l with
  | nil => intro k off cs; rfl
  | cons x r ih =>
    intro k off cs
    simp only [List.zipIdx_cons, List.foldl_cons, setL]
    rw [ih (k + 1) off]
    simp [Nat.add_assoc]

/-- Fields are set, part by part. -/
def fillC (pl : List (Nat × Nat)) (cells : List Cell) : List (Nat × TV) → Option (List Cell)
  | [] => some cells
  | (i, x) :: rest =>
    match pl[i]?, cellsT x with
    | some (off, size), some xs => if xs.length = size ∧ off + xs.length ≤ cells.length then fillC pl (setL cells off xs) rest else none
    | _, _ => none
theorem fillC_ok {pl : List (Nat × Nat)} {place : Nat → Option (Nat × Nat)} (hplace : ∀ i q, pl[i]? = some q → place i = some q) {ps : List (Nat × TV)} {qs : List (Nat × Value)} (hp : All2 (fun (p : Nat × TV) (q : Nat × Value) => p.1 = q.1 ∧ RT w ω κ σ p.2 q.2) ps qs) :
    ∀ {cs cs' : List Cell} {zs : Array Value}, All2 (RC w ω κ σ) cs zs.toList → (∀ u ∈ zs.toList, u.oneCell' = true) → fillC pl cs ps = some cs' →
    ∃ vs : Array Value, Instr.fill place zs qs = some vs ∧ All2 (RC w ω κ σ) cs' vs.toList ∧ ∀ u ∈ vs.toList, u.oneCell' = true := by
  induction ps generalizing qs with
  | nil =>
    intro cs cs' zs h1 h2 h
    have : qs = [] := List.eq_nil_of_length_eq_zero hp.1.symm
    subst this
    obtain rfl := Option.some.inj h
    exact ⟨zs, rfl, h1, h2⟩
  | cons p r ih =>
    intro cs cs' zs h1 h2 h
    cases qs with
    | nil => simp [All2] at hp
    | cons q qs =>
      obtain ⟨i, x⟩ := p
      obtain ⟨j, v⟩ := q
      obtain ⟨hij, hxv⟩ := hp.2 0 _ _ rfl rfl
      simp only at hij hxv
      subst hij
      have ht : All2 (fun (p : Nat × TV) (q : Nat × Value) => p.1 = q.1 ∧ RT w ω κ σ p.2 q.2) r qs := ⟨by simpa using hp.1, fun j y z hy hz => hp.2 (j + 1) y z hy hz⟩
      simp only [fillC] at h
      split at h
      · rename_i off size xs hpl hcx
        split at h
        · rename_i hb
          obtain ⟨h3, h4, _⟩ := cellsT_ok hcx hxv
          have hl : v.cells.size = xs.length := by have := h3.1; simpa using this.symm
          have hz : cs.length = zs.size := by simpa using h1.1
          have e : (v.cells.zipIdx.foldl (fun cs (p : Value × Nat) => cs.setIfInBounds (off + p.2) p.1) zs) = (setL zs.toList off v.cells.toList).toArray := by
            apply Array.ext'
            have := foldl_setL v.cells.toList 0 off zs
            rw [← Array.foldl_toList, Array.toList_zipIdx]
            simpa using this
          obtain ⟨vs, g1, g2, g3⟩ := ih ht (cs := setL cs off xs) (cs' := cs') (zs := (setL zs.toList off v.cells.toList).toArray) (by simpa using h3.setL off h1)
            (fun u hu => by
              rcases setL_mem (by simpa using hu) with h | h
              · exact h2 u h
              · exact h4 u h) h
          refine ⟨vs, ?_, g2, g3⟩
          simp only [Instr.fill, hplace _ _ hpl]
          rw [if_neg (by simp; omega), e]
          exact g1
        · cases h
      · cases h

/-- A struct type's parts: where each lies and how great it is; its zero value. -/
def plOf (P : Program) (t : TypeId) : Option (List (Nat × Nat) × List Value) :=
  match P.info? t, P.underlying t with
  | some it, some (.struct fields) =>
    match it.zero, fields.toList.mapM (fun f => (P.info? f.type).map fun i => (f.offset, i.size)) with
    | some z, some pl => if z.cells.all (·.oneCell') then some (pl, z.cells.toList) else none
    | _, _ => none
  | _, _ => none
def opds (E : Env) : List (Nat × Operand) → Option (List (Nat × TV))
  | [] => some []
  | (i, x) :: r => (opd E x).bind fun y => (opds E r).map ((i, y) :: ·)
theorem opds_ok (hE : EnvOk w ω κ σ E a.tmps) : ∀ {ps : List (Nat × Operand)} {qs : List (Nat × TV)}, opds E ps = some qs →
    All2 (fun (p : Nat × TV) (q : Nat × Value) => p.1 = q.1 ∧ RT w ω κ σ p.2 q.2) qs (ps.map fun p => (p.1, a.eval p.2))
  | [], qs, h => by obtain rfl := Option.some.inj h; exact ⟨rfl, by simp⟩
  | (i, x) :: r, qs, h => by
    simp only [opds] at h
    obtain ⟨y, hy, h⟩ := Option.bind_eq_some_iff.1 h
    obtain ⟨qs', hq, rfl⟩ := Option.map_eq_some_iff.1 h
    obtain ⟨h1, h2⟩ := opds_ok hE hq
    refine ⟨by simp [h1], fun j p q hp hq => ?_⟩
    cases j with
    | zero => simp at hp hq; subst hp; subst hq; exact ⟨rfl, opd_ok hE hy⟩
    | succ j => exact h2 j p q (by simpa using hp) (by simpa using hq)
def evBuild (P : Program) (E : Env) (t : TypeId) (parts : Array (Nat × Operand)) : Option TV :=
  (plOf P t).bind fun q => (opds E parts.toList).bind fun ps => (fillC q.1 (q.2.map ofC) ps).map .ag
theorem evBuild_ok {P : Program} (hE : EnvOk w ω κ σ E a.tmps) {t : TypeId} {parts : Array (Nat × Operand)} {r : TV} (h : evBuild P E t parts = some r) :
    ∃ u, (Instr.build t (parts.map fun (p : Nat × Operand) => (p.1, a.eval p.2))).run P w = .ok u w ∧ RT w ω κ σ r u := by
  unfold evBuild at h
  obtain ⟨⟨pl, z⟩, hp, h⟩ := Option.bind_eq_some_iff.1 h
  obtain ⟨ps, hps, h⟩ := Option.bind_eq_some_iff.1 h
  obtain ⟨cs, hcs, rfl⟩ := Option.map_eq_some_iff.1 h
  unfold plOf at hp
  split at hp
  · rename_i it fields hi hu
    split at hp
    · rename_i z' pl' hz hm
      split at hp
      · rename_i hone
        obtain ⟨rfl, rfl⟩ := Prod.mk.inj (Option.some.inj hp)
        have h1 : All2 (RC w ω κ σ) (z'.cells.toList.map ofC) z'.cells.toList := ⟨by simp, fun j x y hx hy => by
          rw [List.getElem?_map, hy] at hx
          obtain rfl := Option.some.inj hx
          exact ofC_ok y⟩
        obtain ⟨vs, g1, g2, g3⟩ := fillC_ok (pl := pl') (place := fun i => pl'[i]?) (fun _ _ h => h) (opds_ok hE hps) h1 (fun u hu => by
          have := Array.all_eq_true_iff_forall_mem.1 hone u (by simpa using hu)
          exact this) hcs
        refine ⟨.agg vs, run_build w t _ vs ?_, vs.toList, by simp, g2, g3⟩
        unfold Program.built
        simp only [hi, hu, hz, hm]
        simpa using g1
      · cases hp
    · cases hp
  · cases hp

def evIndex (P : Program) (t : TypeId) (x i : TV) : Option TV :=
  match x, i with
  | .c (.im (.sc (.string s))), .c (.im (.sc (.int _ i))) =>
    match P.underlying t with
    | some .string => if 0 ≤ i ∧ i < (s.size : Int) then some (.c (.im (.sc (.int .u8 ((s.data.toList.getD i.toNat 0).toNat : Int))))) else none
    | _ => none
  | _, _ => none
theorem evIndex_ok {P : Program} {t : TypeId} {x i r : TV} {v u : Value} (h : evIndex P t x i = some r) (hx : RT w ω κ σ x v) (hi : RT w ω κ σ i u) :
    ∃ y, (Instr.index t v u).run P w = .ok y w ∧ RT w ω κ σ r y := by
  unfold evIndex at h
  split at h
  · rename_i s kk ii
    split at h
    · rename_i hu
      split at h
      · rename_i hb
        obtain rfl := Option.some.inj h
        cases hi with
        | im _ _ hi =>
          cases hi
          cases hx with
          | im _ _ hx =>
            cases hx
            refine ⟨_, ?_, .im _ _ (.sc _ rfl)⟩
            rw [run_index_string (h := hu), dif_pos hb]
            have : ii.toNat < s.data.size := by have : s.size = s.data.size := rfl; omega
            have e : s.data.toList.getD ii.toNat 0 = s[ii.toNat]'(by have : s.size = s.data.size := rfl; omega) := by
              simp only [List.getD, Array.getElem?_toList, Array.getElem?_eq_getElem this]; rfl
            rw [e]
      · cases h
    · cases h
  · cases h

def evExtract (x : TV) (i : Nat) : Option TV :=
  match x with
  | .tp ts => ts[i]?
  | _ => none
theorem RT_of_RT1 {x : TV} {v : Value} (h : RT1 w ω κ σ x v) : RT w ω κ σ x v := by cases x <;> first | exact h | exact h.elim
theorem evExtract_ok {P : Program} {x r : TV} {i : Nat} {v : Value} (h : evExtract x i = some r) (hx : RT w ω κ σ x v) : ∃ y, (Instr.extract v i).run P w = .ok y w ∧ RT w ω κ σ r y := by
  unfold evExtract at h
  split at h
  · obtain ⟨vs, rfl, h1⟩ := hx
    obtain ⟨y, hy, hr⟩ := h1.get h
    exact ⟨y, by simp [Instr.extract, hy], RT_of_RT1 hr⟩
  · cases h

/-- The order of strings. -/
def sLt (a b : ByteArray) : Bool := Op.bytesLess a.data.toList b.data.toList
theorem str_eq (a b : ByteArray) : (a.toList == b.toList) = decide (a = b) := by
  rw [ByteArray.toList_eq, ByteArray.toList_eq, Bool.eq_iff_iff, beq_iff_eq, decide_eq_true_eq]
  constructor
  · intro h
    cases a; cases b
    simp only [ByteArray.mk.injEq]
    exact Array.ext' h
  · rintro rfl; rfl
theorem str_lt (a b : ByteArray) : Op.bytesLess a.toList b.toList = sLt a b := by rw [ByteArray.toList_eq, ByteArray.toList_eq]; rfl
/-- Operators on scalars. -/
def evBin (P : Program) (t : TypeId) (op : BinOp) (x y : Value) : Option Value :=
  match op, x, y with
  | .shl, _, _ | .shr, _, _ => none
  | op, .int k a, .int k' b =>
    if k = k' then
      match op with
      | .add => some (.int k (k.wrap (a + b)))
      | .sub => some (.int k (k.wrap (a - b)))
      | .mul => some (.int k (k.wrap (a * b)))
      | .quo => if b = 0 then none else some (.int k (k.wrap (a.tdiv b)))
      | .rem => if b = 0 then none else some (.int k (a.tmod b))
      | .eql => some (.bool (decide (a = b)))
      | .neq => some (.bool (!decide (a = b)))
      | .lss => some (.bool (decide (a < b)))
      | .leq => some (.bool (decide (a ≤ b)))
      | .gtr => some (.bool (decide (b < a)))
      | .geq => some (.bool (decide (b ≤ a)))
      | _ => none
    else none
  | op, .string a, .string b =>
    match op with
    | .add => if ((a.size + b.size : Nat) : Int) ≤ 9223372036854775807 then some (.string (a ++ b)) else none
    | .eql => some (.bool (decide (a = b)))
    | .neq => some (.bool (!decide (a = b)))
    | .lss => some (.bool (sLt a b))
    | .leq => some (.bool (sLt a b || decide (a = b)))
    | .gtr => some (.bool (!(sLt a b || decide (a = b))))
    | .geq => some (.bool (!(sLt a b)))
    | _ => none
  | .eql, .bool a, .bool b => match P.underlying t with | some .bool => some (.bool (a == b)) | _ => none
  | .neq, .bool a, .bool b => match P.underlying t with | some .bool => some (.bool (!(a == b))) | _ => none
  | _, _, _ => none
theorem evBin_ok {P : Program} {op : BinOp} {x y v : Value} {t : TypeId} (h : evBin P t op x y = some v) (w : World) : (binOp op t x y).run P w = .ok v w ∧ scalarB v = true := by
  unfold evBin at h
  split at h
  · cases h
  · cases h
  · split at h
    · rename_i hk
      subst hk
      split at h <;> first
        | (obtain rfl := Option.some.inj h; refine ⟨?_, rfl⟩; first | (simp [binOp, Op.intArith, Op.intCmp]; done) | (simp only [binOp, Op.intCmp, ne_eq, not_true_eq_false, if_false]; rfl))
        | (split at h; (· cases h); rename_i hb; obtain rfl := Option.some.inj h; refine ⟨?_, rfl⟩; simp [binOp, Op.intDiv, hb]; done)
        | cases h
    · cases h
  · split at h <;> first
      | (obtain rfl := Option.some.inj h; refine ⟨?_, rfl⟩; simp [binOp, Op.stringOp, str_eq, str_lt]; done)
      | (split at h
         · rename_i hb; obtain rfl := Option.some.inj h; refine ⟨?_, rfl⟩
           have hm : IntKind.i64.max = 9223372036854775807 := by decide
           simp only [binOp, Op.stringOp, hm]
           rw [if_neg (by omega)]; rfl
         · cases h)
      | cases h
  · split at h
    · rename_i hu; obtain rfl := Option.some.inj h; exact ⟨run_eql_bool w _ _ _ hu, rfl⟩
    · cases h
  · split at h
    · rename_i hu; obtain rfl := Option.some.inj h; exact ⟨by simp only [binOp, Sem.run_bind, run_equal_bool w _ _ _ hu]; rfl, rfl⟩
    · cases h
  · cases h
end
end Go.VC
