/- What an operation comes to in a frame; regions; code; the contract of a function from its code. -/
import Derived.Test.YtdedakeldfgjbaaV7
set_option linter.unusedSimpArgs false
set_option linter.unusedVariables false
namespace Go.VC
open Go Go.RowKit
section
variable {w w' : World} {D D' D0 : Nat → Prop} {κ κ' : Nat → Value} {σ : Sto} {E : Env} {a : Act} {B : Nat} {w0 : World} {s : St} {P : Program}

mutual
def Cell.keys : Cell → List Nat
  | .rf k _ => [k]
  | .rv k _ _ => [k]
  | .os k _ => [k]
  | .fn _ caps => keysL caps
  | _ => []
def keysL : List Cell → List Nat
  | [] => []
  | c :: r => c.keys ++ keysL r
end
def TV.keys : TV → List Nat
  | .c x => x.keys
  | .ag cs => keysL cs
  | .tp _ => []
/-- The object k, and what it leads to, is never written again. -/
def St.frzD (s : St) (k : Nat) : St := match get s.σ k with
  | some (.box _ cs) => ((keysL cs).foldl St.frz s).frz k
  | _ => s.frz k
def St.frzAll (s : St) (ks : List Nat) : St := ks.foldl St.frzD s
theorem foldl_frz (ks : List Nat) : ∀ {s : St} {D : Nat → Prop}, Rel B D0 w0 D κ s a w → ∃ D', Rel B D0 w0 D' κ (ks.foldl St.frz s) a w := by
  induction ks with
  | nil => intro s D h; exact ⟨D, h⟩
  | cons k r ih => intro s D h; obtain ⟨D1, h1⟩ := h.frz k; exact ih h1
theorem Rel.frzD (h : Rel B D0 w0 D κ s a w) (k : Nat) : ∃ D', Rel B D0 w0 D' κ (s.frzD k) a w := by
  unfold St.frzD
  split
  · obtain ⟨D1, h1⟩ := foldl_frz _ h; exact h1.frz k
  · exact h.frz k
theorem Rel.frzAll (ks : List Nat) : ∀ {s : St} {D : Nat → Prop}, Rel B D0 w0 D κ s a w → ∃ D', Rel B D0 w0 D' κ (s.frzAll ks) a w := by
  induction ks with
  | nil => intro s D h; exact ⟨D, h⟩
  | cons k r ih => intro s D h; obtain ⟨D1, h1⟩ := h.frzD k; exact ih h1

def opsT (E : Env) : List Operand → Option (List TV)
  | [] => some []
  | x :: r => (opd E x).bind fun y => (opsT E r).map (y :: ·)
theorem opsT_ok (hE : EnvOk w D κ σ E a.tmps) : ∀ {xs : List Operand} {ys : List TV}, opsT E xs = some ys → All2 (RT w D κ σ) ys (xs.map a.eval)
  | [], ys, h => by obtain rfl := Option.some.inj h; exact ⟨rfl, by simp⟩
  | x :: r, ys, h => by
    simp only [opsT] at h
    obtain ⟨y, hy, h⟩ := Option.bind_eq_some_iff.1 h
    obtain ⟨zs, hz, rfl⟩ := Option.map_eq_some_iff.1 h
    obtain ⟨h1, h2⟩ := opsT_ok hE hz
    refine ⟨by simp [h1], fun j p q hp hq => ?_⟩
    cases j with
    | zero => simp at hp hq; subst hp; subst hq; exact opd_ok hE hy
    | succ j => exact h2 j p q (by simpa using hp) (by simpa using hq)

theorem toIV_nil_has (k : Nat) : ∀ {x : Cell} {y : IV}, toIV [] x = some y → x.has k = false := by
  intro x
  refine Cell.rec (motive_1 := fun x => ∀ {y : IV}, toIV [] x = some y → x.has k = false) (motive_2 := fun l => ∀ {ys : List IV}, toIVL [] l = some ys → hasL k l = false) ?_ ?_ ?_ ?_ ?_ ?_ ?_ ?_ ?_ ?_ x
  · intro x y h; rfl
  · intro y h; rfl
  · intro c n cs y h; rfl
  · intro j off y h; simp [toIV, Go.VC.get] at h
  · intro j l off y h; simp [toIV, toIV0, Go.VC.get] at h
  · intro j n y h; simp [toIV, toIV0, Go.VC.get] at h
  · intro f caps ih y h
    simp only [toIV] at h
    obtain ⟨ys, hy, _⟩ := Option.map_eq_some_iff.1 h
    simp [Cell.has, ih hy]
  · intro y h; simp [toIV] at h
  · intro ys h; rfl
  · intro c r ih1 ih2 ys h
    simp only [toIVL] at h
    obtain ⟨x, hx, h⟩ := Option.bind_eq_some_iff.1 h
    obtain ⟨zs, hz, _⟩ := Option.map_eq_some_iff.1 h
    simp [hasL, ih1 hx, ih2 hz]
theorem toIVL_nil_has (k : Nat) : ∀ {l : List Cell} {ys : List IV}, toIVL [] l = some ys → hasL k l = false
  | [], ys, h => rfl
  | c :: r, ys, h => by
    simp only [toIVL] at h
    obtain ⟨x, hx, h⟩ := Option.bind_eq_some_iff.1 h
    obtain ⟨zs, hz, _⟩ := Option.map_eq_some_iff.1 h
    simp [hasL, toIV_nil_has k hx, toIVL_nil_has k hz]
theorem argTs_nil {hdom : ∀ b, D b → b < w.heap.size} : ∀ {xs ys : List TV} {vs : List Value}, argTs [] xs = some ys → All2 (RT w D κ σ) xs vs → All2 (RP w D) ys vs
  | [], ys, vs, h, hv => by obtain rfl := Option.some.inj h; exact ⟨hv.1, by simp⟩
  | c :: r, ys, [], h, hv => by simp [All2] at hv
  | c :: r, ys, v :: vs, h, hv => by
    simp only [argTs] at h
    obtain ⟨x, hx, h⟩ := Option.bind_eq_some_iff.1 h
    obtain ⟨zs, hys, rfl⟩ := Option.map_eq_some_iff.1 h
    have hS : RS w 0 D nok [] := ⟨fun _ _ _ h => by simp [Go.VC.get] at h, fun _ _ _ _ _ h => by simp [Go.VC.get] at h, fun _ _ _ h => by simp [Go.VC.get] at h, fun _ _ h => by simp [Go.VC.get] at h, hdom⟩
    have hno : ∀ k, c.has k = false := fun k => by
      cases c with
      | c x' => obtain ⟨z, hz, _⟩ := Option.map_eq_some_iff.1 hx; exact toIV_nil_has k hz
      | ag cs => obtain ⟨z, hz, _⟩ := Option.map_eq_some_iff.1 hx; exact toIVL_nil_has k hz
      | tp ts => cases hx
    have hc : RT w D nok [] c v := (hv.2 0 c v rfl rfl).step (fun _ h => h) (fun _ _ => rfl) fun k hk => by rw [hno k] at hk; cases hk
    have h0 := RT_of_RT1 (argT_ok hS hx hc)
    have h0' : RP w D x v := by
      refine h0.step (fun b hb => ?_) (fun _ _ => rfl) fun k _ => KeyOk.refl _ _ _
      rcases hb with hb | ⟨k, hk, _⟩
      · exact hb
      · simp [Go.VC.get] at hk
    have h1 := argTs_nil (hdom := hdom) hys (vs := vs) ⟨by simpa using hv.1, fun j y z hy hz => hv.2 (j + 1) y z hy hz⟩
    refine ⟨by simp [h1.1], fun j y z hy hz => ?_⟩
    cases j with
    | zero => simp at hy hz; subst hy; subst hz; exact h0'
    | succ j => exact h1.2 j y z (by simpa using hy) (by simpa using hz)

/-- A function that is entered when it is called. -/
def fnOk (P : Program) (g : FuncId) : Bool := match P.funcs[g]? with | some fn => fn.name != "runtime.NumGoroutine" && fn.body.isSome | none => false
theorem run_callFunc {g : FuncId} (h : fnOk P g = true) (args : Array Value) (w : World) : (callFunc g args).run P w = .ok (.enter g args) w := by
  unfold fnOk at h
  split at h
  · rename_i fn hf
    simp only [Bool.and_eq_true, bne_iff_ne, ne_eq] at h
    obtain ⟨c, hc⟩ := Option.isSome_iff_exists.1 h.2
    simp [callFunc, hf, h.1, hc]
  · cases h
/-- What a function's value calls, and with what behind the arguments. -/
def calleeOf : TV → Option (FuncId × List TV)
  | .c (.im (.fn g ivs)) => some (g, ivs.map fun x => .c (.im x))
  | .c (.fn g caps) => some (g, caps.map .c)
  | _ => none
theorem calleeOf_ok {x : TV} {g : FuncId} {caps : List TV} {v : Value} (h : calleeOf x = some (g, caps)) (hx : RT w D κ σ x v) : ∃ vs : List Value, v = .func (.func g) #[] vs.toArray ∧ All2 (RT w D κ σ) caps vs := by
  unfold calleeOf at h
  split at h
  · obtain ⟨rfl, rfl⟩ := Prod.mk.inj (Option.some.inj h)
    cases hx with
    | im _ _ hx =>
      cases hx with
      | fn _ ivs vs hl hc =>
        refine ⟨vs, rfl, by simp [hl], fun j x y hxj hy => ?_⟩
        rw [List.getElem?_map] at hxj
        obtain ⟨z, hz, rfl⟩ := Option.map_eq_some_iff.1 hxj
        have := hc j z hz
        have e : vs.getD j undef = y := by simp [List.getD, hy]
        rw [e] at this
        exact .im _ _ this
  · obtain ⟨rfl, rfl⟩ := Prod.mk.inj (Option.some.inj h)
    cases hx with
    | fn _ _ vs hl hc =>
      refine ⟨vs, rfl, by simp [hl], fun j x y hxj hy => ?_⟩
      rw [List.getElem?_map] at hxj
      obtain ⟨z, hz, rfl⟩ := Option.map_eq_some_iff.1 hxj
      have := hc j z hz
      have e : vs.getD j undef = y := by simp [List.getD, hy]
      rw [e] at this
      exact this
  · cases h

def St.put (s : St) (d : Nat) (r : TV) : St := ⟨s.N, (d, r) :: s.E, s.σ⟩
/-- A mark that keeps the simplifier out of what it marks. -/
inductive Tg.{u} {α : Sort u} (x : α) : Type
  | mk
/-- A call of a function that changes nothing that was there. -/
def wpCall (P : Program) (s : St) (g : FuncId) (xs : List TV) (d : Nat) (K : St → Prop) (_ : Tg K) : Prop :=
  fnOk P g = true ∧ d < s.N ∧ ∃ ys r, FnP P g ys r ∧ imT r = true ∧ argTs s.σ xs = some ys ∧ scT r = true ∧ K (s.put d r)
/-- The same; what is handed over is never written again, for it may be in the result. -/
def wpCallM (P : Program) (s : St) (f : Operand) (args : List Operand) (d : Nat) (K : St → Prop) (_ : Tg K) : Prop :=
  ∃ x g caps xs, opd s.E f = some x ∧ calleeOf x = some (g, caps) ∧ fnOk P g = true ∧ d < s.N ∧ opsT s.E args = some xs ∧
    ∃ ys r, FnP P g ys r ∧ imT r = true ∧ argTs [] (xs ++ caps) = some ys ∧ K (s.put d r)
def keysOf (E : Env) (xs : List Operand) : List Nat := match opsT E xs with
  | some ts => ts.flatMap TV.keys
  | none => []

def bsCells (n sz : Nat) (zs : List Value) : List Cell := (List.range (n * sz)).map fun i => ofC (zs.getD (i % sz) undef)
def reps {α : Type} : Nat → List α → List α
  | 0, _ => []
  | n + 1, l => l ++ reps n l

/-- On, if there is a value. -/
def onS {α : Type} (o : Option α) (f : α → Prop) (_ : Tg f) : Prop := match o with | some v => f v | none => False
theorem onS_some {α : Type} (v : α) (f : α → Prop) (t : Tg f) : onS (some v) f t = f v := rfl
/-- On, if it is wanted; past it, if not. -/
def gdP (g : Option Bool) (X Y : Prop) (_ : Tg X) (_ : Tg Y) : Prop := match g with | some true => X | some false => Y | none => False
theorem gdP_t (X Y : Prop) (t : Tg X) (t' : Tg Y) : gdP (some true) X Y t t' = X := rfl
theorem gdP_f (X Y : Prop) (t : Tg X) (t' : Tg Y) : gdP (some false) X Y t t' = Y := rfl
/-- Not yet looked at. -/
def Hold (p : Prop) (_ : Tg p) : Prop := p
theorem Hold.mk {p : Prop} {t : Tg p} (h : p) : Hold p t := h
/-- What an operation comes to. -/
def wpO (P : Program) (o : Oper) (s : St) (K : St → Prop) : Prop :=
  match o.op, o.dst with
  | .store t x v, none =>
    match opd s.E x, (opd s.E v).bind cellsT, szOf P t with
    | some (.c (.rf k off)), some news, some n => match get s.σ k with
      | some (.box t' cs) => n = news.length ∧ off + news.length ≤ cs.length ∧ K ⟨s.N, s.E, upd s.σ k (.box t' (setL cs off news))⟩
      | _ => False
    | some (.c (.rv k len off)), some news, some n => match get s.σ k, toIVL s.σ news with
      | some (.vec t' e m cs), some ys => n = news.length ∧ m = len ∧ 0 < ys.length ∧ off + ys.length ≤ cs.length ∧ toIVs news = some ys ∧ K ⟨s.N, s.E, upd s.σ k (.vec t' e m (setL cs off ys))⟩
      | _, _ => False
    | _, _, _ => False
  | .box t x, some d => match (opd s.E x).bind cellsT with
    | some cs => d < s.N ∧ noE d s.E = true ∧ noS d s.σ = true ∧ hasL d cs = false ∧ K ⟨s.N, (d, .c (.rf d 0)) :: s.E, (d, .box t cs) :: s.σ⟩
    | none => False
  | .alloc t, some d => match zvOf P t with
    | some zs => d < s.N ∧ noE d s.E = true ∧ noS d s.σ = true ∧ K ⟨s.N, (d, .c (.rf d 0)) :: s.E, (d, .box t (zs.map ofC)) :: s.σ⟩
    | none => False
  | .buildSlice t n ps, some d => match apOf P t, (opds s.E ps.toList) with
    | some (e, sz, _, zs), some qs => match (fillC ((List.range n).map fun i => (i * sz, sz)) (bsCells n sz zs) qs).bind toIVs with
      | some ys => d < s.N ∧ n * sz ≤ 2 ^ 24 ∧ if n = 0 then noE d s.E = true ∧ noS d s.σ = true ∧ K ⟨s.N, (d, .c (.os d 0)) :: s.E, (d, .vec e sz 0 []) :: s.σ⟩ else K (s.put d (.c (.ik n n ys)))
      | none => False
    | _, _ => False
  | .makeSlice t l c, some d => match apOf P t, opd s.E l, opd s.E c with
    | some (e, sz, by_, zs), some (.c (.im (.sc (.int _ n)))), some (.c (.im (.sc (.int _ n')))) => match toIVs (zs.map ofC) with
      | some ys => d < s.N ∧ 0 ≤ n ∧ n' = n ∧ by_ * n.toNat ≤ 140737488355328 ∧ n.toNat ≤ maxLen ∧ noE d s.E = true ∧ noS d s.σ = true ∧ K ⟨s.N, (d, .c (.os d n.toNat)) :: s.E, (d, .vec e sz n.toNat (reps n.toNat ys)) :: s.σ⟩
      | none => False
    | _, _, _ => False
  | .call c, some d => match c.callee, c.args.toList, c.argTypes.toList with
    | .builtin .append, [x, y], [t, t'] => match apOf P t, opd s.E x, (opd s.E y).bind (srcOf s.σ) with
      | some (e, sz, by_, _), some (.c (.os k n)), some (m, ys) => match get s.σ k with
        | some (.vec e' sz' n' cs) => t' = t ∧ e' = e ∧ sz' = sz ∧ n' = n ∧ d < s.N ∧ ys.length = m * sz ∧ n + m ≤ maxLen ∧ (n + m) * by_ ≤ 140737488355328 ∧
            K ⟨s.N, (d, .c (.os k (n + m))) :: s.E, upd s.σ k (.vec e sz (n + m) (cs ++ ys))⟩
        | _ => False
      | some (e, sz, by_, _), some (.c .nl), some (m, ys) => t' = t ∧ d < s.N ∧ noE d s.E = true ∧ noS d s.σ = true ∧ ys.length = m * sz ∧ m ≤ maxLen ∧ m * by_ ≤ 140737488355328 ∧
            K ⟨s.N, (d, .c (.os d m)) :: s.E, (d, .vec e sz m ys) :: s.σ⟩
      | some (e, sz, by_, _), some (.c (.ik c n cs)), some (m, ys) => t' = t ∧ c < n + m ∧ cs.length = n * sz ∧ d < s.N ∧ noE d s.E = true ∧ noS d s.σ = true ∧ ys.length = m * sz ∧ n + m ≤ maxLen ∧ (n + m) * by_ ≤ 140737488355328 ∧
            K ⟨s.N, (d, .c (.os d (n + m))) :: s.E, (d, .vec e sz (n + m) (cs ++ ys)) :: s.σ⟩
      | _, _, _ => False
    | .builtin .len, [x], [t] => onS ((opd s.E x).bind fun p => evLen P t p) (fun r => d < s.N ∧ K (s.put d r)) .mk
    | .value f, args, _ => match (opd s.E f).bind calleeOf, opsT s.E args with
      | some (g, caps), some xs => wpCall P s g (xs ++ caps) d K .mk ∨ wpCallM P (s.frzAll (keysOf s.E args)) f args d K .mk
      | _, _ => False
    | _, _, _ => False
  | op, some d => onS (ev1 P s.E s.σ op) (fun r => d < s.N ∧ K (s.put d r)) .mk
  | _, _ => False
where
  zvOf (P : Program) (t : TypeId) : Option (List Value) := match P.info? t with
    | some i => match i.zero with
      | some z => if z.cells.all (·.oneCell') then some z.cells.toList else none
      | none => none
    | none => none

theorem wp_value {o : Oper} {next : Act → World → Prop} {Q : Exit → Act → World → Prop} {v : Value} (h : (execOp a.eval o).run P w = .ok (.value v) w') (hn : next (a.put o.dst v) w') : o.wp P a w next Q := by
  unfold Oper.wp; rw [h]; exact hn
theorem wp_skip1 {o : Oper} {next : Act → World → Prop} {Q : Exit → Act → World → Prop} (h : (execOp a.eval o).run P w = .ok .skip w') (hn : next (a.put o.dst undef) w') : o.wp P a w next Q := by
  unfold Oper.wp; rw [h]; exact hn
theorem wp_enter {o : Oper} {next : Act → World → Prop} {Q : Exit → Act → World → Prop} {g : FuncId} {args : Array Value} (h : (execOp a.eval o).run P w = .ok (.enter g args) w)
    (hc : Calls P g args w fun e w' => ∃ v, e = .returned v ∧ next (a.put o.dst v) w') : o.wp P a w next Q := by
  unfold Oper.wp; rw [h]
  exact hc.mono fun e w' ⟨v, he, hn⟩ => by subst he; exact hn

theorem wpList_call {o : Oper} {next : Act → World → Prop} {Q : Exit → Act → World → Prop} {f : Operand} {args : List Operand} {d : Nat} {c : Call} (hop : o.op = .call c) (hcal : c.callee = .value f) (hargs : c.args.toList = args) (hd : o.dst = some d)
    {x : TV} {g : FuncId} {caps xs ys : List TV} {r : TV} (h : Rel B D0 w0 D κ s a w) (hx : opd s.E f = some x) (hg : calleeOf x = some (g, caps)) (hok : fnOk P g = true) (hxs : opsT s.E args = some xs)
    (D1 : Nat → Prop) (hD1 : ∀ b, D1 b → b < w.heap.size) (hys : ∀ vs, All2 (RT w D κ s.σ) (xs ++ caps) vs → All2 (RP w D1) ys vs) (hf : FnP P g ys r)
    (hn : ∀ v w', Below w.heap.size w w' → RP w' (fun b => D1 b ∨ (w.heap.size ≤ b ∧ b < w'.heap.size)) r v → next (a.put (some d) v) w') : o.wp P a w next Q := by
  obtain ⟨cs, hv, hc⟩ := calleeOf_ok hg (opd_ok h.env hx)
  have hav := opsT_ok h.env hxs
  have hall : All2 (RT w D κ s.σ) (xs ++ caps) ((args.map a.eval) ++ cs) := hav.append hc
  have hargs' : c.args.map a.eval ++ cs.toArray = ((args.map a.eval) ++ cs).toArray := by apply Array.ext'; simp [hargs]
  refine wp_enter (g := g) (args := ((args.map a.eval) ++ cs).toArray) ?_ ((hf w D1 _ hD1 (hys _ hall)).mono fun e w' ⟨v, he, hb, hr⟩ => ⟨v, he, by rw [hd]; exact hn v w' hb hr⟩)
  rw [← hargs']
  simp [execOp, hop, resolve, hcal, hv, Deferred.ofValue, invoke, run_callFunc hok]

theorem Rel.withOwn_lt (h : Rel B D0 w0 D κ s a w) : ∀ b, withOwn D κ s.σ b → b < w.heap.size := fun b hb => by
  rcases hb with hb | ⟨k, hk, hb⟩
  · exact h.rs.dom b hb
  · exact h.rs.lt hk hb
theorem grownBy_of_below (h : Below w.heap.size w w') : w.grownBy w' none := ⟨h.os, h.tape, h.output, h.size, fun k hk _ => h.block k hk⟩
theorem below_of_grown {n : Nat} (h : w.grownBy w' none) (hn : n ≤ w.heap.size) : Below n w w' := ⟨h.os, h.tape, h.output, h.size, fun k hk => h.block k (by omega) (by simp)⟩

theorem wpCall_ok {o : Oper} {next : Act → World → Prop} {Q : Exit → Act → World → Prop} {f : Operand} {args : List Operand} {d : Nat} {c : Call} (hop : o.op = .call c) (hcal : c.callee = .value f) (hargs : c.args.toList = args) (hd : o.dst = some d)
    {x : TV} {g : FuncId} {caps xs : List TV} (h : Rel B D0 w0 D κ s a w) (hx : opd s.E f = some x) (hg : calleeOf x = some (g, caps)) (hxs : opsT s.E args = some xs) {K : St → Prop}
    (hw : wpCall P s g (xs ++ caps) d K .mk) (hn : ∀ s' a' w', K s' → RelE B D0 w0 s' a' w' → next a' w') : o.wp P a w next Q := by
  obtain ⟨hok, hdN, ys, r, hf, him, hys, hsc, hK⟩ := hw
  refine wpList_call hop hcal hargs hd h hx hg hok hxs (withOwn D κ s.σ) h.withOwn_lt (fun vs hv => argTs_ok h.rs hys hv) hf fun v w' hb hr => ?_
  have h1 : Rel B D0 w0 D κ s a w' := h.grown (grownBy_of_below hb) (fun _ h => h) (fun _ h => .inl h)
  refine hn _ _ _ hK ⟨D, κ, h1.put hdN ?_⟩
  have : RT w' D κ [] r v := scT_ok hsc hr
  exact imT_step him (fun _ h => h) (fun _ _ => rfl) this
theorem wpCallM_ok {o : Oper} {next : Act → World → Prop} {Q : Exit → Act → World → Prop} {f : Operand} {args : List Operand} {d : Nat} {c : Call} (hop : o.op = .call c) (hcal : c.callee = .value f) (hargs : c.args.toList = args) (hd : o.dst = some d)
    (h : Rel B D0 w0 D κ s a w) {K : St → Prop} (hw : wpCallM P s f args d K .mk) (hn : ∀ s' a' w', K s' → RelE B D0 w0 s' a' w' → next a' w') : o.wp P a w next Q := by
  obtain ⟨x, g, caps, xs, hx, hg, hok, hdN, hxs, ys, r, hf, him, hys, hK⟩ := hw
  refine wpList_call hop hcal hargs hd h hx hg hok hxs D h.rs.dom (fun vs hv => argTs_nil (hdom := h.rs.dom) hys hv) hf fun v w' hb hr => ?_
  have h1 : Rel B D0 w0 (fun b => D b ∨ (w.heap.size ≤ b ∧ b < w'.heap.size)) κ s a w' := h.grown (grownBy_of_below hb) (fun _ h => .inl h) (fun _ h => h)
  exact hn _ _ _ hK ⟨_, κ, h1.put hdN (imT_step him (fun _ h => h) (fun _ _ => rfl) hr)⟩

theorem reps_get {α : Type} (l : List α) : ∀ (n j : Nat), j < n * l.length → (reps n l)[j]? = l[j % l.length]?
  | 0, j, h => by simp at h
  | n + 1, j, h => by
    rw [reps]
    by_cases hj : j < l.length
    · rw [List.getElem?_append_left hj, Nat.mod_eq_of_lt hj]
    · rw [List.getElem?_append_right (by omega), reps_get l n (j - l.length) (by rw [Nat.add_mul] at h; omega), ← Nat.mod_eq_sub_mod (by omega)]
theorem reps_len {α : Type} (l : List α) : ∀ n, (reps n l).length = n * l.length
  | 0 => by simp [reps]
  | n + 1 => by rw [reps, List.length_append, reps_len l n, Nat.add_mul]; omega
theorem made_ok {z : Value} {sz n : Nat} {ys : List IV} (hsz : z.cells.size = sz) (hys : toIVs (z.cells.toList.map ofC) = some ys) : All2 (RI w D) (reps n ys) (madeCells z.cells (n * sz)).toList := by
  have h1 : All2 (RC w D nok []) (z.cells.toList.map ofC) z.cells.toList := ⟨by simp, fun j x y hx hy => by
    rw [List.getElem?_map, hy] at hx
    obtain rfl := Option.some.inj hx
    exact ofC_ok y⟩
  have h2 := toIVs_ok hys h1
  have hl : ys.length = sz := by rw [h2.1]; simpa using hsz
  refine ⟨by rw [reps_len]; simp [size_madeCells, hl], fun j x y hx hy => ?_⟩
  have hj : j < n * ys.length := by rw [← reps_len]; exact (List.getElem?_eq_some_iff.1 hx).1
  rw [reps_get ys n j hj, hl] at hx
  have hj' : j < n * sz := by rw [← hl]; exact hj
  have hm : j % sz < sz := Nat.mod_lt _ (by rcases Nat.eq_zero_or_pos sz with h | h; (· rw [h] at hj'; omega); exact h)
  have : y = z.cells[j % sz]'(by rw [hsz]; exact hm) := by
    simp [madeCells, hj', hsz] at hy
    rw [← hy]
    simp [hsz, hm]
  exact h2.2 _ x y hx (by rw [this]; simp [hsz, hm])
end
end Go.VC
