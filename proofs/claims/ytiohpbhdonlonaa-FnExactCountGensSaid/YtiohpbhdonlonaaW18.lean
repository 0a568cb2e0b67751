/- Reading the arguments of a statement's function as trees: no statement of a program. -/
import Derived.Test.YtiohpbhdonlonaaW17
import Derived.ChangeArms
import Derived.Carry
import Derived.OpenShut
import Derived.SizedLaws
import Derived.ChangeOld
import Derived.WideShapes
set_option linter.unusedSimpArgs false
set_option linter.unusedVariables false
namespace Go.VC
open Go Go.RowKit

abbrev RP (w : World) (ω : Lab) : TV → Value → Prop := RT w ω (fun _ => undef) []
/-- All that is there is all's. -/
def belowL (w : World) : Lab := fun b => if b < w.heap.size then .im else .no
theorem belowL_im {w : World} {b : Nat} (h : b < w.heap.size) : belowL w b = .im := by unfold belowL; rw [if_pos h]
/-- What is read of type 't' is one of these trees. -/
def Rd (P : Program) (t : TypeId) (m : Nat) {α : Type} (E : α → List IV) (ok : α → Prop) : Prop :=
  ∀ (H : Type) (enc : TypeId × Value → H) (w : World) (sp : Nat → Bool) (fuel : Nat) (cs : List Value) (x : DataW H × List MemPlace), fuel ≤ m →
    DataW.trod enc P w 0 sp true fuel t cs = some x → (∀ n ∈ x.1.weights P t, n ≤ reachBytes) → ∃ a, ok a ∧ All2 (RI w (belowL w)) (E a) cs

theorem Rd.map {P : Program} {t : TypeId} {m : Nat} {α β : Type} {E : α → List IV} {ok : α → Prop} (h : Rd P t m E ok) (f : α → β) {E' : β → List IV} {ok' : β → Prop} (hE : ∀ a, ok a → E' (f a) = E a) (hok : ∀ a, ok a → ok' (f a)) : Rd P t m E' ok' := by
  intro H enc w sp fuel cs x hf hx hw
  obtain ⟨a, h1, h2⟩ := h H enc w sp fuel cs x hf hx hw
  exact ⟨f a, hok a h1, by rw [hE a h1]; exact h2⟩

theorem Rd.zero {P : Program} {t : TypeId} {α : Type} {E : α → List IV} {ok : α → Prop} : Rd P t 0 E ok := by
  intro H enc w sp fuel cs x hf hx hw
  obtain rfl : fuel = 0 := by omega
  simp [DataW.trod] at hx

theorem All2.sing {R : IV → Value → Prop} {x : IV} {v : Value} (h : R x v) : All2 R [x] [v] :=
  ⟨rfl, fun j a b ha hb => by
    cases j with
    | zero => simp at ha hb; subst ha; subst hb; exact h
    | succ j => simp at ha⟩

theorem rd_int {P : Program} {t : TypeId} {k : IntKind} (ht : P.underlying t = some (.int k)) (m : Nat) : Rd P t m (fun n : Int => [.sc (.int k n)]) (fun n => k.min ≤ n ∧ n ≤ k.max) := by
  intro H enc w sp fuel cs x hf hx hw
  obtain ⟨n, rfl, rfl, h⟩ := DataW.trod_int ht hx
  simp only [Lit.wf, Bool.and_eq_true, decide_eq_true_eq] at h
  exact ⟨n, h, .sing (.sc _ rfl)⟩
theorem rd_i64 {P : Program} {t : TypeId} (ht : P.underlying t = some (.int .i64)) (m : Nat) : Rd P t m (fun n : Int => [.sc (.int .i64 n)]) (fun n => -9223372036854775808 ≤ n ∧ n ≤ 9223372036854775807) :=
  (rd_int ht m).map id (fun _ _ => rfl) fun a h => by simpa [IntKind.min, IntKind.max, IntKind.signed, IntKind.bits] using h
theorem rd_bool {P : Program} {t : TypeId} (ht : P.underlying t = some .bool) (m : Nat) : Rd P t m (fun b : Bool => [.sc (.bool b)]) (fun _ => True) := by
  intro H enc w sp fuel cs x hf hx hw
  obtain ⟨n, rfl, rfl⟩ := DataW.trod_bool ht hx
  exact ⟨n, trivial, .sing (.sc _ rfl)⟩
theorem rd_string {P : Program} {t : TypeId} (ht : P.underlying t = some .string) (m : Nat) : Rd P t m (fun s : ByteArray => [.sc (.string s)]) (fun s => s.size ≤ reachBytes) := by
  intro H enc w sp fuel cs x hf hx hw
  obtain ⟨s, rfl, rfl, h⟩ := DataW.trod_string ht hx
  refine ⟨s, ?_, .sing (.sc _ rfl)⟩
  exact hw s.size (by simp [DataW.weights])

/-- The cells of a row, an element after the other. -/
theorem flat_at {α : Type} {E : α → List IV} {z : Nat} : ∀ {xs : List α}, (∀ a ∈ xs, (E a).length = z) → (xs.flatMap E).length = xs.length * z ∧ ∀ (j : Nat) (x : IV), (xs.flatMap E)[j]? = some x → ∃ i k a, xs[i]? = some a ∧ (E a)[k]? = some x ∧ k < z ∧ j = i * z + k := by
  intro xs
  induction xs with
  | nil => intro _; exact ⟨by simp, by simp⟩
  | cons a r ih =>
    intro h
    have ha := h a (by simp)
    obtain ⟨h1, h2⟩ := ih fun b hb => h b (by simp [hb])
    refine ⟨by simp [h1, ha, Nat.succ_mul, Nat.add_comm], fun j x hj => ?_⟩
    rw [List.flatMap_cons] at hj
    by_cases hz : j < z
    · rw [List.getElem?_append_left (by omega)] at hj
      exact ⟨0, j, a, rfl, hj, hz, by omega⟩
    · rw [List.getElem?_append_right (by omega)] at hj
      obtain ⟨i, k, b, h3, h4, h5, h6⟩ := h2 _ _ hj
      exact ⟨i + 1, k, b, by simpa using h3, h4, h5, by rw [Nat.succ_mul]; omega⟩

theorem exists_list {α : Type} {n : Nat} {p : Nat → α → Prop} (h : ∀ i, i < n → ∃ a, p i a) : ∃ xs : List α, xs.length = n ∧ ∀ i a, xs[i]? = some a → p i a := by
  induction n with
  | zero => exact ⟨[], rfl, by simp⟩
  | succ n ih =>
    obtain ⟨xs, h1, h2⟩ := ih fun i hi => h i (by omega)
    obtain ⟨a, ha⟩ := h n (by omega)
    refine ⟨xs ++ [a], by simp [h1], fun i b hb => ?_⟩
    by_cases hi : i < n
    · rw [List.getElem?_append_left (by omega)] at hb; exact h2 i b hb
    · rw [List.getElem?_append_right (by omega)] at hb
      have : i - xs.length = 0 := by
        have := (List.getElem?_eq_some_iff.1 hb).1
        simp at this; omega
      rw [this] at hb
      simp at hb
      subst hb
      rwa [show i = n by omega]

theorem weightsAll_mem {H : Type} {P : Program} {e : TypeId} {n : Nat} : ∀ {ds : List (DataW H)} {d : DataW H}, d ∈ ds → n ∈ d.weights P e → n ∈ DataW.weightsAll P e ds := by
  intro ds
  induction ds with
  | nil => intro d h; cases h
  | cons a r ih =>
    intro d h hn
    simp only [DataW.weightsAll, List.mem_append]
    rcases List.mem_cons.1 h with rfl | h
    · exact .inl hn
    · exact .inr (ih h hn)

theorem rd_slice {P : Program} {t e : TypeId} {m : Nat} {α : Type} {E : α → List IV} {ok : α → Prop} {z : Nat} (ht : P.underlying t = some (.slice e)) (hz : P.cellsOf e = z) {y : Nat} (hy : P.bytesOf e = y) (h : Rd P e m E ok) :
    Rd P t (m + 1) (fun xs : List α => [.sl xs.length (xs.flatMap E)]) (fun xs => (∀ a ∈ xs, ok a) ∧ (∀ a ∈ xs, (E a).length = z) ∧ xs.length ≤ maxLen ∧ xs.length * y ≤ reachBytes) := by
  subst hz; subst hy
  intro H enc w sp fuel cs x hf hx hw
  rcases DataW.trod_slice ht hx with ⟨rfl, _⟩ | ⟨a, len, cap, elems, rest, n, rfl, rfl, rfl, _, hl, hm, hlen, hel, _, _⟩
  · exact ⟨[], ⟨by simp, by simp, by simp [maxLen], by simp⟩, .sing .slnil⟩
  · simp only [DataW.weights, ht] at hw
    have each : ∀ i, i < len → ∃ b, ok b ∧ ∃ vs : List Value, vs.length = P.cellsOf e ∧ (∀ k, k < P.cellsOf e → w.cell? (a.add (i * P.cellsOf e + k)) = vs[k]?) ∧ All2 (RI w (belowL w)) (E b) vs := by
      intro i hi
      have h1 := hel i hi
      obtain ⟨x, hx'⟩ : ∃ x, elems[i]? = some x := ⟨elems[i], by simp [hlen, hi]⟩
      rw [hx', Option.bind_eq_some_iff] at h1
      obtain ⟨vs, h2, h3⟩ := h1
      obtain ⟨_, h4, h5⟩ := World.cells?_some h2
      obtain ⟨b, h6, h7⟩ := h H enc w sp n vs x (by omega) h3 fun k hk => hw k (by
        refine List.mem_cons_of_mem _ (List.mem_append_left _ (weightsAll_mem (List.mem_map.2 ⟨x, List.mem_of_getElem? hx', rfl⟩) hk)))
      exact ⟨b, h6, vs, h4, fun k hk => by rw [← h5 k hk, addr_add_add], h7⟩
    obtain ⟨xs, hxl, hxs⟩ := exists_list each
    have hlens : ∀ b ∈ xs, (E b).length = P.cellsOf e := by
      intro b hb
      obtain ⟨i, hi⟩ := List.getElem?_of_mem hb
      obtain ⟨_, vs, h1, _, h2⟩ := hxs i b hi
      rw [h2.1, h1]
    obtain ⟨hf1, hf2⟩ := flat_at hlens
    have hall : ∀ j y, (xs.flatMap E)[j]? = some y → ∃ u, w.cell? (a.add j) = some u ∧ RI w (belowL w) y u := by
      intro j y hj
      obtain ⟨i, k, b, h1, h2, h3, rfl⟩ := hf2 j y hj
      obtain ⟨_, vs, h4, h5, h6⟩ := hxs i b h1
      obtain ⟨u, hu, hr⟩ := h6.get h2
      exact ⟨u, by rw [h5 k h3, hu], hr⟩
    have key : RI w (belowL w) (.sl xs.length (xs.flatMap E)) (.slice (some a) len cap) := by
      rw [hxl]
      refine .sl _ _ _ a (fun j => (w.cell? (a.add j)).getD undef) (fun hne => ?_) (by omega) hm (fun j hj => ?_) fun j y hj => ?_
      · obtain ⟨y, hy⟩ : ∃ y, (xs.flatMap E)[0]? = some y := by
          cases hc : xs.flatMap E with
          | nil => exact absurd hc hne
          | cons y r => exact ⟨y, rfl⟩
        obtain ⟨u, hu, _⟩ := hall 0 y hy
        have := World.block_lt_of_cell? _ _ hu
        rw [addr_add_block] at this
        exact belowL_im this
      · obtain ⟨u, hu, _⟩ := hall j _ (List.getElem?_eq_getElem hj)
        simp [hu]
      · obtain ⟨u, hu, hr⟩ := hall j y hj
        simpa [hu] using hr
    refine ⟨xs, ⟨fun b hb => ?_, hlens, by omega, ?_⟩, .sing key⟩
    · obtain ⟨i, hi⟩ := List.getElem?_of_mem hb
      exact (hxs i b hi).1
    · have := hw _ (List.mem_cons_self)
      refine Nat.le_trans (Nat.mul_le_mul_right _ ?_) this
      simp [hxl, hlen]

/-- The fields' types and places. -/
def strOf (P : Program) (t : TypeId) : Option (List (TypeId × Nat)) := match P.underlying t with | some (.struct fs) => some (fs.toList.map fun f => (f.type, f.offset)) | _ => none
/-- The fields from place 'off' on. -/
def RdL (P : Program) (T off : Nat) (fs : List (TypeId × Nat)) (m : Nat) {α : Type} (E : α → List IV) (ok : α → Prop) : Prop :=
  ∀ (H : Type) (enc : TypeId × Value → H) (w : World) (sp : Nat → Bool) (n : Nat) (cs : List Value) (xs : List (DataW H × List MemPlace)), n ≤ m → cs.length = T → xs.length = fs.length →
    (∀ (i : Nat) (f : TypeId × Nat), fs[i]? = some f → DataW.trod enc P w 0 sp true n f.1 ((cs.drop f.2).take (P.cellsOf f.1)) = xs[i]?) →
    (∀ k ∈ DataW.weightsEach P (fs.map (·.1)) (xs.map (·.1)), k ≤ reachBytes) → ∃ a, ok a ∧ All2 (RI w (belowL w)) (E a) (cs.drop off)

theorem rdL_nil {P : Program} {T m : Nat} : RdL P T T [] m (fun _ : Unit => []) (fun _ => True) := by
  intro H enc w sp n cs xs hn hc hl ht hw
  exact ⟨(), trivial, by simp [hc], by simp⟩
theorem All2.appendI {R : IV → Value → Prop} {xs xs' : List IV} {ys ys' : List Value} (h : All2 R xs ys) (h' : All2 R xs' ys') : All2 R (xs ++ xs') (ys ++ ys') := All2.append h h'
theorem rdL_cons {P : Program} {T off off' m : Nat} {ty : TypeId} {fs : List (TypeId × Nat)} {α β : Type} {E : α → List IV} {ok : α → Prop} {E' : β → List IV} {ok' : β → Prop} (ho' : off + P.cellsOf ty = off')
    (h : Rd P ty m E ok) (h' : RdL P T off' fs m E' ok') : RdL P T off ((ty, off) :: fs) m (fun p : α × β => E p.1 ++ E' p.2) (fun p => ok p.1 ∧ ok' p.2) := by
  subst ho'
  intro H enc w sp n cs xs hn hc hl ht hw
  cases xs with
  | nil => simp at hl
  | cons x xs =>
    simp only [List.map_cons, DataW.weightsEach, List.mem_append] at hw
    obtain ⟨a, h1, h2⟩ := h H enc w sp n _ x hn (by simpa using ht 0 (ty, off) rfl) fun k hk => hw k (.inl hk)
    obtain ⟨b, h3, h4⟩ := h' H enc w sp n cs xs hn hc (by simpa using hl) (fun i g hg => by simpa using ht (i + 1) g (by simpa using hg)) fun k hk => hw k (.inr hk)
    refine ⟨(a, b), ⟨h1, h3⟩, ?_⟩
    have : cs.drop off = (cs.drop off).take (P.cellsOf ty) ++ cs.drop (off + P.cellsOf ty) := by
      rw [← List.drop_drop, List.take_append_drop]
    rw [this]
    exact h2.appendI h4
theorem rd_struct {P : Program} {t : TypeId} {L : List (TypeId × Nat)} {T m : Nat} {α : Type} {E : α → List IV} {ok : α → Prop} (ht : strOf P t = some L) (hT : P.cellsOf t = T) (h : RdL P T 0 L m E ok) : Rd P t (m + 1) E ok := by
  unfold strOf at ht
  split at ht
  · rename_i fs hfs
    obtain rfl := Option.some.inj ht
    intro H enc w sp fuel cs x hf hx hw
    obtain ⟨xs, n, rfl, rfl, h1, h2, h3⟩ := DataW.trod_struct hfs hx
    simp only [DataW.weights, hfs] at hw
    have := h H enc w sp n cs xs (by omega) (by omega) (by simpa using h2) (fun i f hi => by
      rw [List.getElem?_map] at hi
      obtain ⟨g, hg, rfl⟩ := Option.map_eq_some_iff.1 hi
      exact h3 i g (by simpa using hg)) (by rw [List.map_map]; exact hw)
    simpa using this
  · cases ht

/-- The whole argument. -/
theorem Rd.top {P : Program} {t : TypeId} {α : Type} {E : α → List IV} {ok : α → Prop} (h : ∀ m, Rd P t m E ok) {H : Type} {enc : TypeId × Value → H} {w : World} {sp : Nat → Bool} {v : Value} {d : DataW H} {p : List MemPlace}
    (hd : DataW.Trod enc P w 0 sp true t v d p) (hw : ∀ n ∈ d.weights P t, n ≤ reachBytes) : ∃ a, ok a ∧ All2 (RI w (belowL w)) (E a) v.cells.toList := by
  obtain ⟨fuel, hf⟩ := hd
  exact h fuel H enc w sp fuel _ _ (Nat.le_refl _) hf hw
theorem Rd.top1 {P : Program} {t : TypeId} {α : Type} {E : α → IV} {ok : α → Prop} (h : ∀ m, Rd P t m (fun a => [E a]) ok) (hs : ∀ fs, P.underlying t ≠ some (.struct fs)) (ha : ∀ n e, P.underlying t ≠ some (.array n e)) {H : Type} {enc : TypeId × Value → H} {w : World} {sp : Nat → Bool} {v : Value} {d : DataW H} {p : List MemPlace}
    {r : Reach} {base : Nat} (hval : Value.okWide P w r base t v)
    (hd : DataW.Trod enc P w 0 sp true t v d p) (hw : ∀ n ∈ d.weights P t, n ≤ reachBytes) : ∃ a, ok a ∧ RP w (belowL w) (.c (.im (E a))) v := by
  obtain ⟨a, h1, h2⟩ := Rd.top h hd hw
  have hv : v.cells = #[v] := by
    cases v <;> first | rfl | skip
    exfalso
    unfold Value.okWide at hval
    split at hval
    · rename_i h; exact hs _ h
    · rename_i h; exact ha _ _ h
    · unfold Cell.okWide at hval
      split at hval <;> try (rename_i h; cases h; done)
      unfold Cell.ok at hval
      split at hval <;> simp_all
  rw [hv] at h2
  refine ⟨a, h1, .im _ _ (h2.2 0 _ _ rfl rfl)⟩
theorem Rd.topS {P : Program} {t : TypeId} {α : Type} {E : α → List IV} {ok : α → Prop} (h : ∀ m, Rd P t m E ok) {L : List (TypeId × Nat)} (hs : strOf P t = some L) {H : Type} {enc : TypeId × Value → H} {w : World} {sp : Nat → Bool} {v : Value} {d : DataW H} {p : List MemPlace}
    {r : Reach} {base : Nat} (hval : Value.okWide P w r base t v)
    (hd : DataW.Trod enc P w 0 sp true t v d p) (hw : ∀ n ∈ d.weights P t, n ≤ reachBytes) : ∃ a, ok a ∧ RP w (belowL w) (.ag ((E a).map .im)) v := by
  obtain ⟨a, h1, h2⟩ := Rd.top h hd hw
  obtain ⟨fs, hfs⟩ : ∃ fs, P.underlying t = some (.struct fs) := by
    unfold strOf at hs
    split at hs
    · exact ⟨_, by assumption⟩
    · cases hs
  obtain ⟨cs, rfl, _⟩ := WideShapes.okWide_struct hfs hval
  simp only [Value.cells] at h2
  refine ⟨a, h1, cs.toList, by simp, ⟨by simpa using h2.1, fun j x y hx hy => ?_⟩, fun u hu => ?_⟩
  · rw [List.getElem?_map] at hx
    obtain ⟨z, hz, rfl⟩ := Option.map_eq_some_iff.1 hx
    exact .im _ _ (h2.2 j z y hz hy)
  · obtain ⟨j, hj⟩ := List.getElem?_of_mem hu
    have hlt := (List.getElem?_eq_some_iff.1 hj).1
    have : j < (E a).length := by rw [h2.1]; exact hlt
    exact (h2.2 j _ u (List.getElem?_eq_getElem this) hj).one

/-- The arguments afterwards. -/
theorem trodAll_stay {H : Type} {enc : TypeId × Value → H} {P : Program} (hl : laidOutB P = true) {W W' : World} (hb : Below W.heap.size W W') : ∀ {ts : List TypeId} {vs : List Value} {ds : List (DataW H)} {ps : List MemPlace},
    (∀ t ∈ ts, P.readableRec t = true ∧ t < P.types.size) → DataW.TrodAll enc P W 0 (fun _ => true) true ts vs ds ps → DataW.TrodAll enc P W' 0 (fun b => decide (b < W.heap.size)) true ts vs ds ps := by
  intro ts
  induction ts with
  | nil =>
    intro vs ds ps _ h
    obtain ⟨rfl, rfl, rfl⟩ := ChangeShapes.trodAll_nil h
    rfl
  | cons t ts ih =>
    intro vs ds ps ht h
    cases vs with
    | nil => exact h.elim
    | cons v vs =>
      cases ds with
      | nil => exact h.elim
      | cons d ds =>
        obtain ⟨p, q, h1, h2, rfl⟩ := h
        obtain ⟨h3, h4⟩ := ht t (by simp)
        refine ⟨p, q, Below.trod hl h3 h4 h1 hb ?_, ih (fun u hu => ht u (by simp [hu])) h2, rfl⟩
        obtain ⟨fuel, hf⟩ := h1
        exact DataW.trod_lt fuel t _ _ hf

theorem All2.pair {α β : Type} {R : α → β → Prop} {x : α} {xs : List α} {y : β} {ys : List β} (h : R x y) (h' : All2 R xs ys) : All2 R (x :: xs) (y :: ys) :=
  ⟨by simp [h'.1], fun j a b ha hb => by
    cases j with
    | zero => simp at ha hb; subst ha; subst hb; exact h
    | succ j => exact h'.2 j a b (by simpa using ha) (by simpa using hb)⟩
theorem All2.nil {α β : Type} {R : α → β → Prop} : All2 R ([] : List α) ([] : List β) := ⟨rfl, fun j a b ha => by simp at ha⟩
theorem RP_sc {w : World} {ω : Lab} {κ : Nat → Value} {σ : Sto} {u v : Value} (h : RT w ω κ σ (.c (.im (.sc u))) v) : v = u := by
  cases h with
  | im _ _ h => cases h; rfl
/-- A law's function, called. -/
theorem law_call {P : Program} {g : FuncId} {args : List TV} {u : Value} (h : FnS P g [] args [] (.c (.im (.sc u)))) {W : World} {vs : List Value} (hv : All2 (RP W (belowL W)) args vs) :
    Calls P g vs.toArray W fun e W' => e = .returned u ∧ Below W.heap.size W W' := by
  have hb : ∀ b k, belowL W b ≠ .ob k := fun b k => by unfold belowL; split <;> simp
  refine (h W (belowL W) (fun _ => undef) vs ⟨fun k o h => (by rw [get_nil] at h; cases h), fun b hb => ?_⟩ (fun b k h => absurd h (hb b k)) hv).mono fun e W' ⟨v, ω', κ', he, ht, _, hr, _⟩ => ?_
  · unfold belowL at hb; split at hb
    · assumption
    · exact absurd rfl hb
  · obtain rfl := RP_sc hr
    exact ⟨he, ht.os, ht.tape, ht.output, ht.size, fun k hk => ht.block k hk (hb k)⟩
/-- The sizes of the arguments, one by one. -/
theorem weights_cons {H : Type} {P : Program} {t : TypeId} {ts : List TypeId} {d : DataW H} {ds : List (DataW H)} (h : (DataW.weightsEach P (t :: ts) (d :: ds)).all (· ≤ reachBytes) = true) : (∀ n ∈ d.weights P t, n ≤ reachBytes) ∧ (DataW.weightsEach P ts ds).all (· ≤ reachBytes) = true := by
  simp only [DataW.weightsEach, List.all_append, Bool.and_eq_true] at h
  exact ⟨fun n hn => by simpa using List.all_eq_true.1 h.1 n hn, h.2⟩
end Go.VC
