/- Own results as rows, under any names; rows that are handed over: no statement of a program. -/
import Derived.Test.YtiohpbhdonlonaaW24
import Derived.Test.YtiohpbhdonlonaaW25
set_option linter.unusedSimpArgs false
set_option linter.unusedVariables false
namespace Go.VC
open Go Go.RowKit
section
variable {w w' : World} {ω ω' : Lab} {κ κ' : Nat → Value} {σ σ' : Sto} {P : Program} {s : St}
def rowO : Ob → Ob
  | .vec _ _ n cs true => .row n cs
  | o => o
def rowS (σ : Sto) : Sto := σ.map fun p => (p.1, rowO p.2)
theorem rowO_len (o : Ob) : (rowO o).len? = o.len? := by
  cases o with
  | vec t e n cs own => cases own <;> rfl
  | _ => rfl
theorem get_rowS : ∀ (σ : Sto) (k : Nat), get (rowS σ) k = (get σ k).map rowO
  | [], _ => rfl
  | (j, o) :: r, k => by
    show get ((j, rowO o) :: rowS r) k = _
    rw [get_cons, get_cons]
    split
    · rfl
    · exact get_rowS r k
theorem rowS_key (k : Nat) : KeyOk κ σ κ (rowS σ) k := ⟨fun _ => rfl, fun o' m' ho hm => by
  rw [get_rowS] at ho
  obtain ⟨o, h1, rfl⟩ := Option.map_eq_some_iff.1 ho
  rw [rowO_len] at hm
  exact ⟨o, m', h1, hm, Nat.le_refl _, fun _ => rfl⟩⟩
theorem rowS_over : Over w ω κ σ w ω κ (rowS σ) (fun _ => True) (fun _ => True) := ⟨fun b hb => ⟨hb, rfl⟩, fun k _ => rowS_key k, fun k _ o' m' ho hm => by
  rw [get_rowS] at ho
  obtain ⟨o, h1, rfl⟩ := Option.map_eq_some_iff.1 ho
  rw [rowO_len] at hm
  exact ⟨⟨o, m', h1, hm⟩, rfl, fun _ _ _ _ _ => rfl⟩⟩
/-- Own results are taken as rows of a fixed length. -/
theorem FnS.rows {g : FuncId} {σ0 σ1 : Sto} {ys : List TV} {r : TV} (h : FnS P g σ0 ys σ1 r) : FnS P g σ0 ys (rowS σ1) r := by
  intro w ω κ vs hS hω hvs
  refine (h w ω κ vs hS hω hvs).mono fun e w' ⟨v, ω', κ', he, ht, hS', hr, hk⟩ => ⟨v, ω', κ', he, ht, ⟨fun k o ho => ?_, hS'.dom⟩, hr.step (rowS_over.sub (fun _ _ => trivial) fun _ _ => trivial), fun k hk' => (hk k hk').trans (rowS_key k)⟩
  rw [get_rowS] at ho
  obtain ⟨o', h1, rfl⟩ := Option.map_eq_some_iff.1 ho
  have hob := hS'.ob k o' h1
  have hst : ObOk w' ω' κ' (rowS σ1) k o' := hob.step rfl (fun b hb => ⟨hb, rfl⟩) (fun b hb => ⟨hb, rfl⟩) fun _ _ _ i _ => rowS_key i
  cases o' with
  | vec t e n cs own =>
    cases own with
    | false => exact hst
    | true =>
      obtain ⟨S, h2, h3⟩ := vec_RO hob
      exact ⟨S, h2, h3⟩
  | box t cs => exact hst
  | row n cs => exact hst
/-- A result under other names. -/
theorem FnS.as {g : FuncId} {σ0 σ1 σ1' : Sto} {ys : List TV} {r r' : TV} (h : FnS P g σ0 ys σ1 r) (h1 : σ1 = σ1') (h2 : r = r') : FnS P g σ0 ys σ1' r' := by subst h1; subst h2; exact h
theorem FnS.asA {g : FuncId} {σ0 σ1 σ0' σ1' : Sto} {ys ys' : List TV} {r r' : TV} (h : FnS P g σ0 ys σ1 r) (h0 : σ0 = σ0') (hy : ys = ys') (h1 : σ1 = σ1') (h2 : r = r') : FnS P g σ0' ys' σ1' r' := by subst h0; subst hy; subst h1; subst h2; exact h
theorem pml : ∀ (ss ts : List Nat), ss.Nodup → ts.Nodup → ss.length = ts.length → ∃ p : Pm, ss.map p.f = ts
  | [], [], _, _, _ => ⟨Pm.sw 0 0, rfl⟩
  | [], _ :: _, _, _, h => by simp at h
  | _ :: _, [], _, _, h => by simp at h
  | s :: ss, t :: ts, h1, h2, h3 => by
    obtain ⟨p, hp⟩ := pml ss ts (List.nodup_cons.1 h1).2 (List.nodup_cons.1 h2).2 (by simpa using h3)
    refine ⟨p.then (Pm.sw (p.f s) t), ?_⟩
    rw [List.map_cons]
    congr 1
    · simp [Pm.then, Pm.sw, swp]
    · rw [← hp]
      refine List.map_congr_left fun x hx => ?_
      have n1 : p.f x ≠ p.f s := fun e => (List.nodup_cons.1 h1).1 (by rw [← p.gf s, ← e, p.gf]; exact hx)
      have n2 : p.f x ≠ t := fun e => (List.nodup_cons.1 h2).1 (by rw [← e, ← hp]; exact List.mem_map_of_mem hx)
      simp [Pm.then, Pm.sw, swp, n1, n2]
/-- A nil slice in a result is taken for an own row without elements. -/
theorem FnS.nl {g : FuncId} {σ0 σ1 : Sto} {ys : List TV} {cs : List Cell} (h : FnS P g σ0 ys σ1 (.ag cs)) (i q : Nat) (hi : cs[i]? = some .nl) (h1 : (get σ1 q).isSome = false) (h0 : (get σ0 q).isSome = false) (hc : hasL q cs = false) (hs : noS q σ1 = true) :
    FnS P g σ0 ys ((q, .row 0 []) :: σ1) (.ag (cs.set i (.os q 0))) := by
  intro w ω κ vs hS hω hvs
  refine (h w ω κ vs hS hω hvs).mono fun e w' ⟨v, ω', κ', he, ht, hS', hr, hk⟩ => ?_
  have hne : ∀ k, (get σ1 k).isSome = true → k ≠ q := fun k hk' e => by rw [e, h1] at hk'; cases hk'
  have hkey : ∀ k, k ≠ q → KeyOk κ' σ1 (setK κ' q (.slice none 0 0)) ((q, .row 0 []) :: σ1) k := fun k hkq => ⟨fun _ => setK_ne κ' _ hkq, fun o' m' ho hm => by
    rw [get_cons, if_neg hkq] at ho
    exact ⟨o', m', ho, hm, Nat.le_refl _, fun _ => setK_ne κ' _ hkq⟩⟩
  have him : ∀ b, ω' b = .im → ω' b = .im ∧ w'.heap[b]? = w'.heap[b]? := fun b hb => ⟨hb, rfl⟩
  have hover : ∀ c : Cell, c.has q = false → ∀ u, RC w' ω' κ' σ1 c u → RC w' ω' (setK κ' q (.slice none 0 0)) ((q, .row 0 []) :: σ1) c u := fun c hcq u hu =>
    hu.step ⟨him, fun k hk' => hkey k (fun e => by rw [e, hcq] at hk'; cases hk'), fun k hk' o' m' ho hm => by
      have hkq : k ≠ q := fun e => by have := hasN_has k c hk'; rw [e, hcq] at this; cases this
      rw [get_cons, if_neg hkq] at ho
      exact ⟨⟨o', m', ho, hm⟩, setK_ne κ' _ hkq, fun _ _ _ _ _ => rfl⟩⟩
  refine ⟨v, ω', setK κ' q (.slice none 0 0), he, ht, ⟨fun k o ho => ?_, hS'.dom⟩, ?_, fun k hk' => (hk k hk').trans (hkey k fun e => by rw [e, h0] at hk'; cases hk')⟩
  · rw [get_cons] at ho
    split at ho
    · rename_i e
      subst e
      obtain rfl := Option.some.inj ho
      exact ⟨fun _ => False, by rw [setK_eq]; exact .z none _ fun _ h => h, fun _ h => h.elim⟩
    · rename_i hkq
      refine (hS'.ob k o ho).step (setK_ne κ' _ hkq) (fun b hb => ⟨hb, rfl⟩) him fun t cs' e j hj => hkey j fun e' => ?_
      subst e; subst e'
      rw [noS_get hs ho] at hj; cases hj
  · obtain ⟨us, rfl, g1, g2⟩ := hr
    refine ⟨us, rfl, ⟨by simpa using g1.1, fun j x u hx hu => ?_⟩, g2⟩
    rw [List.getElem?_set] at hx
    split at hx
    · rename_i e
      subst e
      split at hx
      · obtain rfl := Option.some.inj hx
        have := g1.2 i _ u hi hu
        cases this
        exact .os q 0 none 0 (Nat.le_refl _) (fun _ => rfl) fun o m ho hm => by
          rw [get_cons, if_pos rfl] at ho
          obtain rfl := Option.some.inj ho
          obtain rfl := Option.some.inj hm
          exact ⟨Nat.le_refl _, fun _ => setK_eq κ' q _⟩
      · cases hx
    · refine hover x ?_ u (g1.2 j x u hx hu)
      cases hxq : x.has q with
      | false => rfl
      | true => rw [hasL_mem hx hxq] at hc; cases hc
/-- A call to which own rows are handed over. -/
theorem CallG.own {g d : Nat} {xs : List TV} {σ0 σ1 : Sto} {r : TV} {K : St → Prop} {t : Tg K} (hf : FnS P g σ0 xs σ1 r) (hsub : subS s.σ σ0) (hki : keysIn σ0 σ1 r.keys = true) (hks : keysInS σ0 σ1 σ1 = true) (hfr : freshB s σ0 σ1 = true) (hnn : nnAll s σ0 = true) (hd : d < s.N)
    (hK : K ⟨s.N, (d, r) :: s.E, backS s.σ σ0 σ1⟩) : CallG P s g xs d K t :=
  CallG.by (σa := []) (l := .no) hf (subS_ok hsub) (.inr rfl) (fun k o h => by rw [get_nil] at h; cases h) (by
    clear hf hK hd
    induction xs with
    | nil => trivial
    | cons x r ih => exact ⟨.inl rfl, ih⟩) hki hks hfr hnn hd hK
theorem CallG.ownE {g d : Nat} {xs ys : List TV} {σ0 σ1 : Sto} {r : TV} {K : St → Prop} {t : Tg K} (hf : FnS P g σ0 ys σ1 r) (hx : xs = ys) (hsub : subS s.σ σ0) (hki : keysIn σ0 σ1 r.keys = true) (hks : keysInS σ0 σ1 σ1 = true) (hfr : freshB s σ0 σ1 = true) (hnn : nnAll s σ0 = true) (hd : d < s.N)
    (hK : K ⟨s.N, (d, r) :: s.E, backS s.σ σ0 σ1⟩) : CallG P s g xs d K t := by subst hx; exact CallG.own hf hsub hki hks hfr hnn hd hK
/-- Where a nested row stands. -/
structure Nsk (k q j : Nat) : Prop where
/-- The nested row is handed over; what the callee makes of it stands in its place. -/
def nestP (s : St) (k q j d : Nat) (xs ys : List TV) (σ0 σ1 : Sto) (r : TV) (K : St → Prop) (_ : Tg K) : Prop := match get s.σ k with
  | some (.row n cs) => match nestS cs [(q, j)], nestT k [(q, j)] cs xs, nestB σ1 [(q, j)] cs with
    | some σ0', some ys', some cs' => σ0' = σ0 ∧ ys' = ys ∧ K ⟨s.N, (d, r) :: s.E, upd s.σ k (.row n cs')⟩
    | _, _, _ => False
  | _ => False
theorem CallG.nest1 {g d k q j : Nat} (_ : Nsk k q j) {xs ys : List TV} {σ0 σ1 : Sto} {r : TV} {K : St → Prop} {t : Tg K} (hf : FnS P g σ0 ys σ1 r) (hr' : pureT r = true ∧ r.keys = []) (hd : d < s.N) (h : nestP s k q j d xs ys σ0 σ1 r K t) : CallG P s g xs d K t := by
  unfold nestP at h
  split at h
  · rename_i n cs hk
    split at h
    · rename_i σ0' ys' cs' h0 hx h1
      obtain ⟨rfl, rfl, hK⟩ := h
      exact CallG.nest [(q, j)] hf hk h0 rfl hx h1 hr' hd hK
    · exact h.elim
  · exact h.elim
/-- A call that is handed over own rows. -/
theorem CalO {F C G R : Prop} (f : F) (c : C) (r : R) (d : F → C → Bx R → G := by
      intro fx cx rx
      refine CallG.ownE cx ?_ ?_ ?_ ?_ ?_ ?_ (by simp only [Nat.reduceLT]) ?_ <;> ((try simp -dsimp (maxSteps := 2000000) (disch := omega) only [vs, ↓Option.bind_some, ev1, ofV, scalarB, Kn, Kb, calleeOf, evLoad, ptr, evField, evFieldAddr, shift, ↓pt_at, ↓pt_at1, evExtract, evBin, evLen, evConv, cellsT, noS, Cell.has, Cell.hasN, Cell.anyN, toIV, toIV0, toIVs, ownC, srcM, Ob.own, Ob.esz, allSc, nilK, lenC, ownCell, isPtr, ptrNil, frzO, Cell.frz, Cell.keys, ↓reduceIte, reduceCtorEq, Nat.reduceEqDiff, Nat.reduceBEq, Nat.reduceBNe, Nat.reduceAdd, Nat.reduceMul, Nat.reduceSub, Nat.reduceLT, Nat.reduceLeDiff, Nat.reducePow, Int.reduceLT, Int.reduceLE, Int.reduceEq, Int.reduceNe, quietB, Nat.reduceMod, Int.reduceToNat, ne_eq, eq_self, exists_const, evBytes, byRow, byL, byStr_size, ifsz, ByteArray.size_append, Option.none_or, Option.some_or, backS, nnAll, nestP, nestS, nestT, nestL, nestC, nestB, qOf, List.set_cons_zero, List.set_cons_succ, fcx, fx]) <;> first | trivial | (with_reducible rfl) | exact rx.h)) : G := d f c ⟨r⟩
/-- A call that writes what stands in an own row's cell. -/
theorem CalN {F C G R : Prop} {k q j : Nat} (n : Nsk k q j) (f : F) (c : C) (r : R) (d : Nsk k q j → F → C → Bx R → G := by
      intro nx fx cx rx
      refine CallG.nest1 nx cx (by first | exact ⟨rfl, rfl⟩ | simp) (by simp only [Nat.reduceLT]) ?_
      simp -dsimp (maxSteps := 2000000) (disch := omega) only [vs, ↓Option.bind_some, ev1, ofV, scalarB, Kn, Kb, calleeOf, evLoad, ptr, evField, evFieldAddr, shift, ↓pt_at, ↓pt_at1, evExtract, evBin, evLen, evConv, cellsT, noS, Cell.has, Cell.hasN, Cell.anyN, toIV, toIV0, toIVs, ownC, srcM, Ob.own, Ob.esz, allSc, nilK, lenC, ownCell, isPtr, ptrNil, frzO, Cell.frz, Cell.keys, ↓reduceIte, reduceCtorEq, Nat.reduceEqDiff, Nat.reduceBEq, Nat.reduceBNe, Nat.reduceAdd, Nat.reduceMul, Nat.reduceSub, Nat.reduceLT, Nat.reduceLeDiff, Nat.reducePow, Int.reduceLT, Int.reduceLE, Int.reduceEq, Int.reduceNe, quietB, Nat.reduceMod, Int.reduceToNat, ne_eq, eq_self, exists_const, evBytes, byRow, byL, byStr_size, ifsz, ByteArray.size_append, Option.none_or, Option.some_or, backS, nnAll, nestP, nestS, nestT, nestL, nestC, nestB, qOf, List.set_cons_zero, List.set_cons_succ, fcx, fx]
      repeat (with_reducible refine ⟨(by with_reducible rfl), ?_⟩)
      exact rx.h) : G := d n f c ⟨r⟩
end
end Go.VC
