/- Operations in a frame; the machine agrees. -/
import Derived.Test.YtiohpbhdonlonaaW10
import Derived.Lib.SliceRun
set_option linter.unusedSimpArgs false
set_option linter.unusedVariables false
namespace Go.VC
open Go Go.RowKit
section
variable {β : Base} {w w' : World} {ω ω' : Lab} {κ κ' : Nat → Value} {σ σ' : Sto} {E : Env} {a : Act} {s : St} {P : Program}

/-- A function that is entered when it is called. -/
def fnOk (P : Program) (g : FuncId) : Bool := match P.funcs[g]? with | some fn => fn.name != "runtime.NumGoroutine" && fn.body.isSome | none => false
theorem run_callFunc {g : FuncId} (h : fnOk P g = true) (args : Array Value) (w : World) : (callFunc g args).run P w = .ok (.enter g args) w := by
  unfold fnOk at h
  split at h
  · rename_i fn hf
    simp only [Bool.and_eq_true, bne_iff_ne, ne_eq] at h
    obtain ⟨c, hc⟩ := Option.isSome_iff_exists.1 h.2
    simp [callFunc, hf, h.1, hc]
  · cases h
/-- What a function's value calls, and with what behind the arguments. -/
def calleeOf : TV → Option (FuncId × List TV)
  | .c (.im (.fn g ivs)) => some (g, ivs.map fun x => .c (.im x))
  | .c (.fn g caps) => some (g, caps.map .c)
  | _ => none
theorem calleeOf_ok {x : TV} {g : FuncId} {caps : List TV} {v : Value} (h : calleeOf x = some (g, caps)) (hx : RT w ω κ σ x v) : ∃ vs : List Value, v = .func (.func g) #[] vs.toArray ∧ All2 (RT w ω κ σ) caps vs := by
  unfold calleeOf at h
  split at h
  · obtain ⟨rfl, rfl⟩ := Prod.mk.inj (Option.some.inj h)
    cases hx with
    | im _ _ hx =>
      cases hx with
      | fn _ ivs vs hl hc =>
        refine ⟨vs, rfl, by simp [hl], fun j x y hxj hy => ?_⟩
        rw [List.getElem?_map] at hxj
        obtain ⟨z, hz, rfl⟩ := Option.map_eq_some_iff.1 hxj
        have := hc j z hz
        have e : vs.getD j undef = y := by simp [List.getD, hy]
        rw [e] at this
        exact .im _ _ this
  · obtain ⟨rfl, rfl⟩ := Prod.mk.inj (Option.some.inj h)
    cases hx with
    | fn _ _ vs hl hc =>
      refine ⟨vs, rfl, by simp [hl], fun j x y hxj hy => ?_⟩
      rw [List.getElem?_map] at hxj
      obtain ⟨z, hz, rfl⟩ := Option.map_eq_some_iff.1 hxj
      have := hc j z hz
      have e : vs.getD j undef = y := by simp [List.getD, hy]
      rw [e] at this
      exact this
  · cases h

def St.put (s : St) (d : Nat) (r : TV) : St := ⟨s.N, (d, r) :: s.E, s.σ⟩
/-- A call, and what comes behind it. -/
def CallG (P : Program) (s : St) (g : FuncId) (xs : List TV) (d : Nat) (K : St → Prop) (_ : Tg K) : Prop :=
  ∀ β ω κ a w vs, Rel β ω κ s a w → All2 (RT w ω κ s.σ) xs vs → Calls P g vs.toArray w fun e w' => ∃ v, e = .returned v ∧ ∃ s', K s' ∧ RelE β s' (a.put (some d) v) w'

def bsCells (n sz : Nat) (zs : List Value) : List Cell := (List.range (n * sz)).map fun i => ofC (zs.getD (i % sz) undef)
def reps {α : Type} : Nat → List α → List α
  | 0, _ => []
  | n + 1, l => l ++ reps n l
/-- On, if there is a value. -/
def onS {α : Type} (o : Option α) (f : α → Prop) (_ : Tg f) : Prop := match o with | some v => f v | none => False
theorem onS_some {α : Type} (v : α) (f : α → Prop) (t : Tg f) : onS (some v) f t = f v := rfl
/-- On, if it is wanted; past it, if not. -/
def gdP (g : Option Bool) (X Y : Prop) (_ : Tg X) (_ : Tg Y) : Prop := match g with | some true => X | some false => Y | none => False
theorem gdP_t (X Y : Prop) (t : Tg X) (t' : Tg Y) : gdP (some true) X Y t t' = X := rfl
theorem gdP_f (X Y : Prop) (t : Tg X) (t' : Tg Y) : gdP (some false) X Y t t' = Y := rfl
/-- Do the elements lead nowhere? -/
def flatZ (zs : List Value) : Bool := zs.all fun
  | .slice _ _ _ | .pointer _ | .map _ | .nilFunc | .nilIface | .func _ _ _ | .agg _ | .tuple _ => false
  | _ => true
/-- How long a slice is. -/
def lenC : Cell → Option Nat
  | .im (.sl n _) | .ik _ n _ | .os _ n | .ov _ _ _ n => some n
  | _ => none
/-- A slice against nil. -/
def nilK (x : Cell) (eq : Bool) (K : Bool → Prop) : Prop := match x with
  | .nl => K eq
  | x => match lenC x with
    | some n => ∀ b : Bool, (b = true → n = 0) → K (b == eq)
    | none => False
def slB (P : Program) (t : TypeId) : Bool := match P.underlying t with | some (.slice _) => true | _ => false
/-- The flag of a row to which is appended. -/
def mixO (fl o1 o2 : Bool) (m : Nat) : Option Bool := if fl || o1 == o2 then some o1 else if o1 then some false else none
/-- What an operation comes to. -/
def wpO (P : Program) (o : Oper) (s : St) (K : St → Prop) : Prop :=
  match o.op, o.dst with
  | .store t x v, none =>
    match opd s.E x, (opd s.E v).bind cellsT, szOf P t with
    | some (.c (.rf k off)), some news, some n => match get s.σ k with
      | some (.box t' cs) => n = news.length ∧ off + news.length ≤ cs.length ∧ nnE k s.E = true ∧ K ⟨s.N, s.E, upd s.σ k (.box t' (setL cs off news))⟩
      | _ => False
    | some (.c (.rv k len off)), some news, some n => match get s.σ k with
      | some (.vec t' e m cs true) => match ownC s.σ news with
        | some (ys, ks) => n = news.length ∧ m = len ∧ 0 < ys.length ∧ off + ys.length ≤ cs.length ∧ k ∉ ks ∧ nnE k s.E = true ∧ K ⟨s.N, s.E, upd (delL s.σ ks) k (.vec t' e m (setL cs off ys) true)⟩
        | none => False
      | some (.vec t' e m cs false) => match toIVs news with
        | some ys => n = news.length ∧ m = len ∧ 0 < ys.length ∧ off + ys.length ≤ cs.length ∧ nnE k s.E = true ∧ K ⟨s.N, s.E, upd s.σ k (.vec t' e m (setL cs off ys) false)⟩
        | none => False
      | some (.row m cs) => match ownC s.σ news with
        | some (ys, ks) => n = news.length ∧ m = len ∧ 0 < ys.length ∧ off + ys.length ≤ cs.length ∧ k ∉ ks ∧ nnE k s.E = true ∧ K ⟨s.N, s.E, upd (delL s.σ ks) k (.row m (setL cs off ys))⟩
        | none => False
      | _ => False
    | _, _, _ => False
  | .box t x, some d => match (opd s.E x).bind cellsT with
    | some cs => d < s.N ∧ noE (2 * d) s.E = true ∧ noS (2 * d) s.σ = true ∧ hasL (2 * d) cs = false ∧ K ⟨s.N, (d, .c (.rf (2 * d) 0)) :: s.E, (2 * d, .box t cs) :: s.σ⟩
    | none => False
  | .alloc t, some d => match zvOf P t with
    | some zs => d < s.N ∧ noE (2 * d) s.E = true ∧ noS (2 * d) s.σ = true ∧ K ⟨s.N, (d, .c (.rf (2 * d) 0)) :: s.E, (2 * d, .box t (zs.map ofC)) :: s.σ⟩
    | none => False
  | .buildSlice t n ps, some d => match apOf P t, (opds s.E ps.toList) with
    | some (e, sz, _, zs), some qs => match (fillC ((List.range n).map fun i => (i * sz, sz)) (bsCells n sz zs) qs) with
      | some cs => d < s.N ∧ n * sz ≤ 2 ^ 24 ∧ noE (2 * d) s.E = true ∧ noS (2 * d) s.σ = true ∧ match ownC s.σ cs with
        | some (ys, ks) => 2 * d ∉ ks ∧ K ⟨s.N, (d, .c (.os (2 * d) n)) :: s.E, (2 * d, .vec e sz n ys true) :: delL s.σ ks⟩
        | none => match toIVs cs with
          | some ys => K ⟨s.N, (d, .c (.os (2 * d) n)) :: s.E, (2 * d, .vec e sz n ys false) :: s.σ⟩
          | none => False
      | none => False
    | _, _ => False
  | .makeSlice t l c, some d => match apOf P t, opd s.E l, opd s.E c with
    | some (e, sz, by_, zs), some (.c (.im (.sc (.int _ n)))), some (.c (.im (.sc (.int _ n')))) => match ownC [] (zs.map ofC) with
      | some (ys, ks) => d < s.N ∧ 0 ≤ n ∧ n' = n ∧ by_ * n.toNat ≤ 140737488355328 ∧ n.toNat ≤ maxLen ∧ noE (2 * d) s.E = true ∧ noS (2 * d) s.σ = true ∧ K ⟨s.N, (d, .c (.os (2 * d) n.toNat)) :: s.E, (2 * d, .vec e sz n.toNat (reps n.toNat ys) true) :: s.σ⟩
      | none => False
    | _, _, _ => False
  | .binOp op t x y u, some d => match op, opd s.E x, opd s.E y with
    | .eql, some (.c x), some (.c .nl) => slB P t = true ∧ d < s.N ∧ nilK x true fun b => K (s.put d (.c (.im (.sc (.bool b)))))
    | .neq, some (.c x), some (.c .nl) => slB P t = true ∧ d < s.N ∧ nilK x false fun b => K (s.put d (.c (.im (.sc (.bool b)))))
    | op, _, _ => onS (ev1 P s.E s.σ (.binOp op t x y u)) (fun r => d < s.N ∧ K (s.put d r)) .mk
  | .call c, some d => match c.callee, c.args.toList, c.argTypes.toList with
    | .builtin .append, [x, y], [t, t'] => match apOf P t, opd s.E x with
      | some (e, sz, by_, zs), some (.c (.os k n)) => match get s.σ k, (opd s.E y).bind (srcM (flatZ zs) s.σ) with
        | some (.vec e' sz' n' cs o1), some (m, ys, ks, o2) => t' = t ∧ e' = e ∧ sz' = sz ∧ n' = n ∧ d < s.N ∧ ys.length = m * sz ∧ (flatZ zs = true → allSc ys = true) ∧ n + m ≤ maxLen ∧ (n + m) * by_ ≤ 140737488355328 ∧ k ∉ ks ∧ nnE k s.E = true ∧
            match mixO (flatZ zs) o1 o2 m with
            | some o => K ⟨s.N, (d, .c (.os k (n + m))) :: s.E, upd (delL s.σ ks) k (.vec e sz (n + m) (cs ++ ys) o)⟩
            | none => False
        | _, _ => False
      | some (e, sz, by_, zs), some (.c (.ov k n 0 q)) => match get s.σ k, (opd s.E y).bind (srcM (flatZ zs) s.σ) with
        | some (.vec e' sz' n' cs o1), some (m, ys, ks, o2) => t' = t ∧ e' = e ∧ sz' = sz ∧ n' = n ∧ d < s.N ∧ ys.length = m * sz ∧ (flatZ zs = true → allSc ys = true) ∧ q + m ≤ maxLen ∧ (q + m) * by_ ≤ 140737488355328 ∧ k ∉ ks ∧ noE (2 * d) s.E = true ∧ noS (2 * d) s.σ = true ∧ k ≠ 2 * d ∧ 2 * d ∉ ks ∧ q ≤ n ∧ cs.length = n * sz ∧
            match mixO (flatZ zs) o1 o2 m with
            | some o => K ⟨s.N, (d, .c (.os (2 * d) (q + m))) :: s.E, (2 * d, .vec e sz (q + m) (cs.take (q * sz) ++ ys) o) :: delL (del s.σ k) ks⟩
            | none => False
        | _, _ => False
      | some (e, sz, by_, zs), some (.c .nl) => match (opd s.E y).bind (srcM (flatZ zs) s.σ) with
        | some (m, ys, ks, o2) => t' = t ∧ d < s.N ∧ noE (2 * d) s.E = true ∧ noS (2 * d) s.σ = true ∧ ys.length = m * sz ∧ (flatZ zs = true → allSc ys = true) ∧ m ≤ maxLen ∧ m * by_ ≤ 140737488355328 ∧ 2 * d ∉ ks ∧
            K ⟨s.N, (d, .c (.os (2 * d) m)) :: s.E, (2 * d, .vec e sz m ys o2) :: delL s.σ ks⟩
        | none => False
      | some (e, sz, by_, zs), some (.c (.ik 0 0 [])) => match (opd s.E y).bind (srcM (flatZ zs) s.σ) with
        | some (m, ys, ks, o2) => t' = t ∧ d < s.N ∧ noE (2 * d) s.E = true ∧ noS (2 * d) s.σ = true ∧ ys.length = m * sz ∧ (flatZ zs = true → allSc ys = true) ∧ m ≤ maxLen ∧ m * by_ ≤ 140737488355328 ∧ 2 * d ∉ ks ∧
            K ⟨s.N, (d, .c (.os (2 * d) m)) :: s.E, (2 * d, .vec e sz m ys o2) :: delL s.σ ks⟩
        | none => False
      | some (e, sz, by_, zs), some (.c (.ik c n cs)) => match (opd s.E y).bind (srcM (flatZ zs) s.σ) with
        | some (m, ys, ks, o2) => t' = t ∧ c < n + m ∧ cs.length = n * sz ∧ d < s.N ∧ noE (2 * d) s.E = true ∧ noS (2 * d) s.σ = true ∧ ys.length = m * sz ∧ (flatZ zs = true → allSc ys = true ∧ allSc cs = true) ∧ (flatZ zs = false → o2 = false ∨ ys = []) ∧ n + m ≤ maxLen ∧ (n + m) * by_ ≤ 140737488355328 ∧ ks = [] ∧
            K ⟨s.N, (d, .c (.os (2 * d) (n + m))) :: s.E, (2 * d, .vec e sz (n + m) (cs ++ ys) (flatZ zs)) :: s.σ⟩
        | none => False
      | _, _ => False
    | .builtin .len, [x], [t] => onS ((opd s.E x).bind fun p => evLen P t p) (fun r => d < s.N ∧ K (s.put d r)) .mk
    | .value f, args, _ => match (opd s.E f).bind calleeOf, opsT s.E args with
      | some (g, caps), some xs => fnOk P g = true ∧ CallG P s g (xs ++ caps) d K .mk
      | _, _ => False
    | _, _, _ => onS (ev1 P s.E s.σ (.call c)) (fun r => d < s.N ∧ K (s.put d r)) .mk
  | op, some d => onS (ev1 P s.E s.σ op) (fun r => d < s.N ∧ K (s.put d r)) .mk
  | _, _ => False
where
  zvOf (P : Program) (t : TypeId) : Option (List Value) := match P.info? t with
    | some i => match i.zero with
      | some z => if z.cells.all (·.oneCell') then some z.cells.toList else none
      | none => none
    | none => none
end
end Go.VC
