/- Slicing, functions, lengths; all operations that change no memory in one. -/
import Derived.Test.YtiohpbhdonlonaaW2
import Derived.Laws.BytesString
set_option linter.unusedSimpArgs false
set_option linter.unusedVariables false
namespace Go.VC
open Go Go.RowKit
section
variable {w : World} {ω : Lab} {κ : Nat → Value} {σ : Sto} {E : Env} {a : Act}

/-- A bound that is given, or not. -/
def bnd (E : Env) (d : Int) : Option Operand → Option Int
  | none => some d
  | some x => match opd E x with | some (.c (.im (.sc (.int _ i)))) => some i | _ => none
theorem bnd_ok (hE : EnvOk w ω κ σ E a.tmps) {d i : Int} {x : Option Operand} (h : bnd E d x = some i) : (x = none ∧ i = d) ∨ ∃ y k, x = some y ∧ a.eval y = .int k i := by
  cases x with
  | none => exact .inl ⟨rfl, (Option.some.inj h).symm⟩
  | some y =>
    simp only [bnd] at h
    split at h
    · rename_i k i' hy
      obtain rfl := Option.some.inj h
      have := opd_ok hE hy
      generalize hv : a.eval y = v at this
      cases this with
      | im _ _ h => cases h; exact .inr ⟨y, k, rfl, hv⟩
    · cases h
theorem run_bounds {P : Program} (isSlice : Bool) (len cap l h m : Nat) (lo hi mx : Option Value)
    (hm : (mx = none ∧ m = cap) ∨ ∃ k, mx = some (.int k (m : Int))) (hmc : m ≤ cap) (hh : (hi = none ∧ mx = none ∧ h = len) ∨ ∃ k, hi = some (.int k (h : Int))) (hhm : h ≤ m)
    (hl : (lo = none ∧ l = 0) ∨ ∃ k, lo = some (.int k (l : Int))) (hlh : l ≤ h) (w : World) : (Instr.sliceBounds isSlice len cap lo hi mx).run P w = .ok (l, h, m) w := by
  rcases hm with ⟨rfl, rfl⟩ | ⟨km, rfl⟩ <;> rcases hh with ⟨rfl, h1, rfl⟩ | ⟨kh, rfl⟩ <;> rcases hl with ⟨rfl, rfl⟩ | ⟨kl, rfl⟩ <;> first | (cases h1; done) | skip
  all_goals simp [Instr.sliceBounds, run_sliceBound, hmc, hhm, hlh, Int.ofNat_le]

/-- A part of a slice: its bounds, and its capacity where it is known. -/
def partOf (E : Env) (cap : Option Nat) (n sz : Nat) (cs : List IV) (lo hi mx : Option Operand) : Option TV :=
  (bnd E 0 lo).bind fun l => (bnd E n hi).bind fun h =>
    if 0 ≤ l ∧ l ≤ h ∧ h ≤ (n : Int) then
      match mx with
      | none => match cap with
        | none => some (.c (.im (.sl (h.toNat - l.toNat) ((cs.drop (l.toNat * sz)).take ((h.toNat - l.toNat) * sz)))))
        | some c => some (.c (.ik (c - l.toNat) (h.toNat - l.toNat) ((cs.drop (l.toNat * sz)).take ((h.toNat - l.toNat) * sz))))
      | some _ => if hi = none then none else (bnd E 0 mx).bind fun m =>
        if h ≤ m ∧ m ≤ (n : Int) then some (.c (.ik (m.toNat - l.toNat) (h.toNat - l.toNat) ((cs.drop (l.toNat * sz)).take ((h.toNat - l.toNat) * sz)))) else none
    else none
theorem run_part {P : Program} (hE : EnvOk w ω κ σ E a.tmps) {t e : TypeId} {sz n c : Nat} {lo hi mx : Option Operand} {ad : Option Addr} (he : elOf P t = some (e, sz)) {l hh : Int} (hl : bnd E 0 lo = some l) (hhi : bnd E n hi = some hh)
    (hb : 0 ≤ l ∧ l ≤ hh) (m : Nat) (hhm : hh.toNat ≤ m) (hmc : m ≤ c) (hm : (mx.map a.eval = none ∧ m = c) ∨ ∃ k, mx.map a.eval = some (.int k (m : Int))) (hmx : mx ≠ none → hi ≠ none) (hnc : n ≤ c) :
    (Instr.sliceAt t (.slice ad n c) (lo.map a.eval) (hi.map a.eval) (mx.map a.eval)).run P w = .ok (sliced ad l.toNat hh.toNat m sz) w := by
  obtain ⟨h1, h2, h3⟩ := elOf_some he
  have hu : P.underlying t = some (.slice (P.elem t)) := by rw [h3]; exact h1
  rw [run_sliceAt_slice (h := hu), run_slice_any (ht := hu), run_bounds true n c l.toNat hh.toNat m _ _ _ hm hmc ?_ hhm ?_ (by omega)]
  · simp [Result.andThen, h3, run_sizeOf h2]
  · rcases bnd_ok hE hhi with ⟨rfl, rfl⟩ | ⟨y, k, rfl, hy⟩
    · refine .inl ⟨rfl, ?_, by simp⟩
      cases mx with
      | none => rfl
      | some q => exact absurd rfl (hmx (by simp))
    · exact .inr ⟨k, by simp [hy]; omega⟩
  · rcases bnd_ok hE hl with ⟨rfl, rfl⟩ | ⟨y, k, rfl, hy⟩
    · exact .inl ⟨rfl, rfl⟩
    · exact .inr ⟨k, by simp [hy]; omega⟩
/-- A part of an own row. -/
def partOv (E : Env) (k n off n1 sz : Nat) (lo hi mx : Option Operand) : Option TV :=
  match mx with
  | some _ => none
  | none => (bnd E 0 lo).bind fun l => (bnd E n1 hi).bind fun h => if 0 ≤ l ∧ l ≤ h ∧ h ≤ (n1 : Int) ∧ 0 < sz then some (.c (.ov k n (off + l.toNat * sz) (h.toNat - l.toNat))) else none
theorem partOv_ok {P : Program} (hE : EnvOk w ω κ σ E a.tmps) {t e : TypeId} {sz k n off n1 c : Nat} {lo hi mx : Option Operand} {r : TV} {ad : Option Addr} (he : elOf P t = some (e, sz)) (hz : ad = none → c = 0)
    (hr : ∀ o l, get σ k = some o → o.len? = some l → n ≤ l ∧ (l = n → OvOk (κ k) off ad n1 c)) (hnc : n1 ≤ c) (h : partOv E k n off n1 sz lo hi mx = some r) :
    ∃ u, (Instr.sliceAt t (.slice ad n1 c) (lo.map a.eval) (hi.map a.eval) (mx.map a.eval)).run P w = .ok u w ∧ RT w ω κ σ r u := by
  unfold partOv at h
  split at h
  · cases h
  · obtain ⟨l, hl, h⟩ := Option.bind_eq_some_iff.1 h
    obtain ⟨hh, hhi, h⟩ := Option.bind_eq_some_iff.1 h
    split at h
    · rename_i hb
      obtain rfl := Option.some.inj h
      refine ⟨_, run_part (mx := none) hE he hl hhi ⟨hb.1, hb.2.1⟩ c (by omega) (Nat.le_refl _) (.inl ⟨rfl, rfl⟩) (fun h => absurd rfl h) hnc, ?_⟩
      refine .ov _ _ _ _ _ _ (by omega) (fun hn => ?_) fun o q hg hm => ⟨(hr o q hg hm).1, fun e => ?_⟩
      · have : ad = none := by
          split at hn
          · exact hn
          · simpa using hn
        have := hz this; omega
      obtain ⟨h1, h2, h3, h4⟩ := (hr o q hg hm).2 e
      refine ⟨by omega, by omega, fun hc => ?_, fun ho => ?_⟩
      · obtain ⟨b, l', c', h5, h6⟩ := h3 (by omega)
        refine ⟨b, l', c', h5, ?_⟩
        rw [if_neg (by omega), h6]
        simp only [Option.map_some]
        congr 1
        unfold Addr.add
        by_cases hz : l.toNat * sz = 0
        · simp [hz]
        · simp [hz]
      · have hl0 : l.toNat = 0 := by
          rcases Nat.eq_zero_or_pos l.toNat with h | h
          · exact h
          · have := Nat.mul_pos h hb.2.2.2; omega
        obtain ⟨l', h5⟩ := h4 (by omega)
        refine ⟨l', ?_⟩
        rw [hl0]
        simp only [Nat.sub_zero, Nat.zero_mul]
        rw [h5]
        split
        · rfl
        · cases ad <;> simp [Addr.add]
    · cases h

def evSlice (P : Program) (E : Env) (t : TypeId) (x : Operand) (lo hi mx : Option Operand) : Option TV :=
  match opd E x with
  | some (.c (.im (.sl n cs))) => (elOf P t).bind fun q => partOf E none n q.2 cs lo hi mx
  | some (.c (.ik c n cs)) => (elOf P t).bind fun q => partOf E (some c) n q.2 cs lo hi mx
  | some (.c .nl) => (elOf P t).bind fun q => partOf E (some 0) 0 q.2 [] lo hi mx
  | some (.c (.os k n)) => (elOf P t).bind fun q => partOv E k n 0 n q.2 lo hi mx
  | some (.c (.ov k n off m)) => (elOf P t).bind fun q => partOv E k n off m q.2 lo hi mx
  | some (.c (.im (.sc (.string s)))) =>
    match P.underlying t, mx with
    | some .string, none => (bnd E 0 lo).bind fun l => (bnd E s.size hi).bind fun h =>
      if 0 ≤ l ∧ l ≤ h ∧ h ≤ (s.size : Int) then some (.c (.im (.sc (.string (s.extract l.toNat h.toNat))))) else none
    | _, _ => none
  | _ => none

theorem partOf_ok {P : Program} (hE : EnvOk w ω κ σ E a.tmps) {t e : TypeId} {sz n c : Nat} {cap : Option Nat} {cs : List IV} {lo hi mx : Option Operand} {r : TV} {ad : Option Addr} (he : elOf P t = some (e, sz))
    (hcap : ∀ k, cap = some k → k = c) (hr : RI w ω (.sl n cs) (.slice ad n c)) (h : partOf E cap n sz cs lo hi mx = some r) :
    ∃ u, (Instr.sliceAt t (.slice ad n c) (lo.map a.eval) (hi.map a.eval) (mx.map a.eval)).run P w = .ok u w ∧ RT w ω κ σ r u := by
  unfold partOf at h
  obtain ⟨l, hl, h⟩ := Option.bind_eq_some_iff.1 h
  obtain ⟨hh, hhi, h⟩ := Option.bind_eq_some_iff.1 h
  obtain ⟨h1, h2, h3⟩ := elOf_some he
  split at h
  · rename_i hb
    have hnc : n ≤ c := by cases hr <;> omega
    have main : ∀ (m : Nat), hh.toNat ≤ m → m ≤ c →
        ((mx.map a.eval = none ∧ m = c) ∨ ∃ k, mx.map a.eval = some (.int k (m : Int))) → (mx ≠ none → hi ≠ none) →
        (Instr.sliceAt t (.slice ad n c) (lo.map a.eval) (hi.map a.eval) (mx.map a.eval)).run P w = .ok (sliced ad l.toNat hh.toNat m sz) w := by
      intro m hhm hmc hm hmx
      have hu : P.underlying t = some (.slice (P.elem t)) := by rw [h3]; exact h1
      rw [run_sliceAt_slice (h := hu), run_slice_any (ht := hu), run_bounds true n c l.toNat hh.toNat m _ _ _ hm hmc ?_ hhm ?_ (by omega)]
      · simp [Result.andThen, h3, run_sizeOf h2]
      · rcases bnd_ok hE hhi with ⟨rfl, rfl⟩ | ⟨y, k, rfl, hy⟩
        · refine .inl ⟨rfl, ?_, by simp⟩
          cases mx with
          | none => rfl
          | some q => exact absurd rfl (hmx (by simp))
        · exact .inr ⟨k, by simp [hy]; omega⟩
      · rcases bnd_ok hE hl with ⟨rfl, rfl⟩ | ⟨y, k, rfl, hy⟩
        · exact .inl ⟨rfl, rfl⟩
        · exact .inr ⟨k, by simp [hy]; omega⟩
    have good : ∀ (m : Nat), hh.toNat ≤ m → m ≤ c → ∃ ad', sliced ad l.toNat hh.toNat m sz = .slice ad' (hh.toNat - l.toNat) (m - l.toNat) ∧
        RI w ω (.sl (hh.toNat - l.toNat) ((cs.drop (l.toNat * sz)).take ((hh.toNat - l.toNat) * sz))) (.slice ad' (hh.toNat - l.toNat) (m - l.toNat)) := by
      intro m hhm hmc
      refine ⟨_, rfl, ?_⟩
      cases hr with
      | slnil =>
        have : hh.toNat = 0 := by omega
        have : m = 0 := by omega
        have : l.toNat = 0 := by omega
        simp [*]
        exact .slnil
      | sl _ _ _ ad vs hd hn hm hcell hri =>
        by_cases hml : m = l.toNat
        · have h0 : hh.toNat - l.toNat = 0 := by omega
          rw [if_pos hml, h0]
          refine .sl _ _ _ ad vs (fun h => absurd (by simp) h) (by omega) (by omega) (fun j hj => by simp at hj) (fun j x hj => by simp at hj)
        · rw [if_neg hml]
          refine .sl _ _ _ (ad.add (l.toNat * sz)) (fun j => vs (l.toNat * sz + j)) (fun h => by rw [addr_add_block]; exact hd (by rintro rfl; simp at h)) (by omega) (by omega) (fun j hj => ?_) (fun j x hj => ?_)
          · rw [addr_add_add]; exact hcell _ (by simp at hj; omega)
          · have hlt : j < (hh.toNat - l.toNat) * sz := by
              have := (List.getElem?_eq_some_iff.1 hj).1
              simp at this; omega
            rw [List.getElem?_take_of_lt hlt, List.getElem?_drop] at hj
            exact hri _ _ hj
    cases mx with
    | none =>
      have hrun := main c (by omega) (Nat.le_refl _) (.inl ⟨rfl, rfl⟩) (fun h => absurd rfl h)
      obtain ⟨ad', e1, e2⟩ := good c (by omega) (Nat.le_refl _)
      rw [e1] at hrun
      refine ⟨_, hrun, ?_⟩
      simp only at h
      split at h
      · obtain rfl := Option.some.inj h; exact .im _ _ e2
      · obtain rfl := Option.some.inj h
        rw [hcap _ rfl]; exact .ik _ _ _ _ e2
    | some q =>
      simp only at h
      split at h
      · cases h
      · rename_i hne
        obtain ⟨m, hm, h⟩ := Option.bind_eq_some_iff.1 h
        split at h
        · rename_i hmb
          obtain rfl := Option.some.inj h
          rcases bnd_ok hE hm with ⟨h', _⟩ | ⟨y, k, hy, hyv⟩
          · cases h'
          · obtain rfl := Option.some.inj hy
            have hrun := main m.toNat (by omega) (by omega) (.inr ⟨k, by simp [hyv]; omega⟩) (fun _ => hne)
            obtain ⟨ad', e1, e2⟩ := good m.toNat (by omega) (by omega)
            rw [e1] at hrun
            exact ⟨_, hrun, .ik _ _ _ _ e2⟩
        · cases h
  · cases h
theorem os_cap (hS : RS w ω κ σ) {k n c : Nat} {ad : Option Addr} {o : Ob} (hg : get σ k = some o) (hm : o.len? = some n) (hk : κ k = .slice ad n c) : OvOk (κ k) 0 ad n c := by
  have hob := hS.ob k o hg
  cases o with
  | box => cases hm
  | vec t e n' cs own =>
    obtain rfl := Option.some.inj hm
    obtain ⟨_, xs, how, _⟩ := hob
    rw [hk] at how ⊢
    obtain ⟨a', c', q, h1, h2, _⟩ := how.slice
    injection q with q1 q2 q3
    subst q1; subst q3
    refine ⟨h1, h2, fun hc => ?_, fun _ => ⟨_, rfl⟩⟩
    rcases how.2 with ⟨_, a, hv⟩ | ⟨g, cap, cur, hv, _⟩
    · injection hv with _ _ q; omega
    · injection hv with q1 q2 q3; exact ⟨g, _, _, by rw [q1], q1⟩
  | row n' cs =>
    obtain rfl := Option.some.inj hm
    obtain ⟨S, hr, _⟩ := hob
    rw [hk] at hr ⊢
    cases hr with
    | z => exact ⟨Nat.le_refl _, by simp [maxLen], fun h => by omega, fun _ => ⟨_, rfl⟩⟩
    | sl _ _ g _ _ _ _ _ _ _ h1 h2 => exact ⟨h1, h2, fun _ => ⟨g, _, _, rfl, rfl⟩, fun _ => ⟨_, rfl⟩⟩
theorem evSlice_ok {P : Program} (hS : RS w ω κ σ) (hE : EnvOk w ω κ σ E a.tmps) {t : TypeId} {x : Operand} {lo hi mx : Option Operand} {r : TV} (h : evSlice P E t x lo hi mx = some r) :
    ∃ u, (Instr.sliceAt t (a.eval x) (lo.map a.eval) (hi.map a.eval) (mx.map a.eval)).run P w = .ok u w ∧ RT w ω κ σ r u := by
  unfold evSlice at h
  split at h
  · rename_i n cs hx
    obtain ⟨⟨e, sz⟩, he, h⟩ := Option.bind_eq_some_iff.1 h
    have hxv := opd_ok hE hx
    generalize a.eval x = v at hxv
    cases hxv with
    | im _ _ hr =>
      have hv : ∃ ad c, v = .slice ad n c := by cases hr <;> exact ⟨_, _, rfl⟩
      obtain ⟨ad, c, rfl⟩ := hv
      exact partOf_ok hE he (by simp) hr h
  · rename_i c n cs hx
    obtain ⟨⟨e, sz⟩, he, h⟩ := Option.bind_eq_some_iff.1 h
    have hxv := opd_ok hE hx
    generalize a.eval x = v at hxv
    cases hxv with
    | ik _ _ _ ad hr => exact partOf_ok hE he (fun k hk => (Option.some.inj hk).symm) hr h
  · rename_i hx
    obtain ⟨⟨e, sz⟩, he, h⟩ := Option.bind_eq_some_iff.1 h
    have hxv := opd_ok hE hx
    generalize a.eval x = v at hxv
    cases hxv with
    | nl => exact partOf_ok (ω := ω) hE he (fun k hk => (Option.some.inj hk).symm) .slnil h
  · rename_i k n hx
    obtain ⟨⟨e, sz⟩, he, h⟩ := Option.bind_eq_some_iff.1 h
    have hxv := opd_ok hE hx
    generalize a.eval x = v at hxv
    cases hxv with
    | os _ _ ad c hnc hz hr => exact partOv_ok hE he hz (fun o l hg hm => ⟨(hr o l hg hm).1, fun e => by subst e; exact os_cap hS hg hm ((hr o _ hg hm).2 rfl)⟩) hnc h
  · rename_i k n off m hx
    obtain ⟨⟨e, sz⟩, he, h⟩ := Option.bind_eq_some_iff.1 h
    have hxv := opd_ok hE hx
    generalize a.eval x = v at hxv
    cases hxv with
    | ov _ _ _ _ ad c hnc hz hr => exact partOv_ok hE he hz hr hnc h
  · rename_i s hx
    split at h
    · rename_i hu
      obtain ⟨l, hl, h⟩ := Option.bind_eq_some_iff.1 h
      obtain ⟨hh, hhi, h⟩ := Option.bind_eq_some_iff.1 h
      split at h
      · rename_i hb
        obtain rfl := Option.some.inj h
        have hxv := opd_ok hE hx
        generalize a.eval x = v at hxv
        cases hxv with
        | im _ _ hxv =>
          cases hxv
          refine ⟨_, ?_, .im _ _ (.sc _ rfl)⟩
          rw [run_sliceAt_string (h := hu)]
          have hbd := run_bounds (P := P) false s.size s.size l.toNat hh.toNat s.size (lo.map a.eval) (hi.map a.eval) none (.inl ⟨rfl, rfl⟩) (Nat.le_refl _) (by
            rcases bnd_ok hE hhi with ⟨rfl, rfl⟩ | ⟨y, k, rfl, hy⟩
            · exact .inl ⟨rfl, rfl, by simp⟩
            · exact .inr ⟨k, by simp [hy]; omega⟩) (by omega) (by
            rcases bnd_ok hE hl with ⟨rfl, rfl⟩ | ⟨y, k, rfl, hy⟩
            · exact .inl ⟨rfl, rfl⟩
            · exact .inr ⟨k, by simp [hy]; omega⟩) (by omega) w
          simp [Instr.slice, run_underlying hu, hbd]
      · cases h
    · cases h
  · cases h

def evLen (P : Program) (t : TypeId) (x : TV) : Option TV :=
  match P.underlying t, x with
  | some (.slice _), .c .nl => some (.c (.im (.sc (.int .i64 0))))
  | some (.slice _), .c (.ik _ n _) => some (.c (.im (.sc (.int .i64 (n : Int)))))
  | some (.slice _), .c (.im (.sl n _)) => some (.c (.im (.sc (.int .i64 (n : Int)))))
  | some (.slice _), .c (.os _ n) => some (.c (.im (.sc (.int .i64 (n : Int)))))
  | some (.slice _), .c (.ov _ _ _ n) => some (.c (.im (.sc (.int .i64 (n : Int)))))
  | some .string, .c (.im (.sc (.string s))) => some (.c (.im (.sc (.int .i64 (s.size : Int)))))
  | _, _ => none
theorem evLen_ok {P : Program} {t ty : TypeId} {x r : TV} {v : Value} (h : evLen P t x = some r) (hx : RT w ω κ σ x v) : ∃ u, (Builtin.len_ #[t] ty #[v]).run P w = .ok u w ∧ RT w ω κ σ r u := by
  unfold evLen at h
  split at h
  · rename_i e hu
    obtain rfl := Option.some.inj h
    cases hx; exact ⟨_, by simp [Builtin.len_, run_underlying hu, goInt], .im _ _ (.sc _ rfl)⟩
  · rename_i e c n cs hu
    obtain rfl := Option.some.inj h
    cases hx with | ik => exact ⟨_, by simp [Builtin.len_, run_underlying hu, goInt], .im _ _ (.sc _ rfl)⟩
  · rename_i e n cs hu
    obtain rfl := Option.some.inj h
    cases hx with
    | im _ _ hx => cases hx <;> exact ⟨_, by simp [Builtin.len_, run_underlying hu, goInt], .im _ _ (.sc _ rfl)⟩
  · rename_i e k n hu
    obtain rfl := Option.some.inj h
    cases hx with | os => exact ⟨_, by simp [Builtin.len_, run_underlying hu, goInt], .im _ _ (.sc _ rfl)⟩
  · rename_i e k n1 off n hu
    obtain rfl := Option.some.inj h
    cases hx with | ov => exact ⟨_, by simp [Builtin.len_, run_underlying hu, goInt], .im _ _ (.sc _ rfl)⟩
  · rename_i s hu
    obtain rfl := Option.some.inj h
    cases hx with | im _ _ hx => cases hx; exact ⟨_, by simp [Builtin.len_, run_underlying hu, goInt], .im _ _ (.sc _ rfl)⟩
  · cases h

def evConv (P : Program) (src dst : TypeId) (x : TV) : Option TV :=
  match x with
  | .c (.im (.sc (.int _ n))) => match P.underlying src, P.underlying dst with
    | some _, some (.int k) => some (.c (.im (.sc (.int k (k.wrap n)))))
    | _, _ => none
  | .c (.im (.sc (.string s))) => match P.underlying src, P.underlying dst with
    | some .string, some .string => some (.c (.im (.sc (.string s))))
    | _, _ => none
  | _ => none
theorem evConv_ok {P : Program} {src dst : TypeId} {x r : TV} {v : Value} (h : evConv P src dst x = some r) (hx : RT w ω κ σ x v) : ∃ u, (convert src dst v).run P w = .ok u w ∧ RT w ω κ σ r u := by
  unfold evConv at h
  split at h
  · split at h
    · rename_i d k hs hd
      obtain rfl := Option.some.inj h
      cases hx with | im _ _ hx => cases hx; exact ⟨_, by simp [convert, run_underlying hs, run_underlying hd, Conv.intToInt], .im _ _ (.sc _ rfl)⟩
    · cases h
  · split at h
    · rename_i hs hd
      obtain rfl := Option.some.inj h
      cases hx with | im _ _ hx => cases hx; exact ⟨_, by simp [convert, run_underlying hs, run_underlying hd], .im _ _ (.sc _ rfl)⟩
    · cases h
  · cases h

/-- Bytes as a string. -/
def byL : List IV → Option (List Int)
  | [] => some []
  | .sc (.int .u8 n) :: r => (byL r).map (n :: ·)
  | _ => none
def byStr : List Int → ByteArray := fun l => l.foldl (fun r n => r.push (UInt8.ofNat n.toNat)) ByteArray.empty
theorem byStr_size (l : List Int) : (byStr l).size = l.length := by
  have : ∀ (l : List Int) (s : ByteArray), (l.foldl (fun r n => r.push (UInt8.ofNat n.toNat)) s).size = s.size + l.length := fun l => by
    induction l with
    | nil => intro s; rfl
    | cons a r ih => intro s; rw [List.foldl_cons, ih, ByteArray.size_push, List.length_cons]; omega
  unfold byStr
  rw [this]; simp
def byRow (σ : Sto) : TV → Option (Nat × List IV)
  | .c (.os k n) => match get σ k with | some (.vec _ e m cs _) => if e = 1 ∧ m = n then some (n, cs) else none | _ => none
  | .c (.ik _ n cs) => some (n, cs)
  | _ => none
def evBytes (P : Program) (σ : Sto) (src dst : TypeId) (x : TV) : Option TV :=
  match P.underlying src, P.underlying dst with
  | some (.slice e), some .string => match P.underlying e with
    | some (.int .u8) => (byRow σ x).bind fun p => if p.2.length = p.1 then (byL p.2).map fun l => .c (.im (.sc (.string (byStr l)))) else none
    | _ => none
  | _, _ => none
theorem byL_get : ∀ {cs : List IV} {l : List Int}, byL cs = some l → cs = l.map fun n => .sc (.int .u8 n)
  | [], l, h => by obtain rfl := Option.some.inj h; rfl
  | x :: r, l, h => by
    cases x with
    | sc v =>
      cases v with
      | int k n =>
        cases k with
        | u8 =>
          simp only [byL] at h
          obtain ⟨l', h1, rfl⟩ := Option.map_eq_some_iff.1 h
          rw [byL_get h1]; rfl
        | _ => simp [byL] at h
      | _ => simp [byL] at h
    | _ => simp [byL] at h
theorem conv_bytes {P : Program} {src dst e : TypeId} (hs : P.underlying src = some (.slice e)) (he : P.underlying e = some (.int .u8)) (hd : P.underlying dst = some .string) {ad : Option Addr} {n c : Nat} {l : List Int} (hl : l.length = n) (hn : ad = none → n = 0)
    (hcell : ∀ b, ad = some b → ∀ j m, l[j]? = some m → w.cell? (b.add j) = some (.int .u8 m)) : (convert src dst (.slice ad n c)).run P w = .ok (.string (byStr l)) w := by
  rw [run_convert_bytes_string w src dst e ad n c hs he hd]
  cases ad with
  | none =>
    have : l = [] := List.eq_nil_of_length_eq_zero (by rw [hl]; exact hn rfl)
    subst this
    simp [Conv.bytesToString, byStr]
  | some b =>
    refine run_bytesToString w b n c l ?_
    have := run_loadCells_list (P := P) w b (l.map (Value.int .u8)) fun j v hv => by
      rw [List.getElem?_map] at hv
      obtain ⟨m, hm, rfl⟩ := Option.map_eq_some_iff.1 hv
      exact hcell b rfl j m hm
    rwa [List.length_map, hl] at this
theorem evBytes_ok {P : Program} (hS : RS w ω κ σ) {src dst : TypeId} {x r : TV} {v : Value} (h : evBytes P σ src dst x = some r) (hx : RT w ω κ σ x v) : ∃ u, (convert src dst v).run P w = .ok u w ∧ RT w ω κ σ r u := by
  unfold evBytes at h
  split at h
  · rename_i e hs hd
    split at h
    · rename_i he
      obtain ⟨⟨n, cs⟩, hb, h⟩ := Option.bind_eq_some_iff.1 h
      simp only at h
      split at h
      · rename_i hlen
        obtain ⟨l, hl, rfl⟩ := Option.map_eq_some_iff.1 h
        have hcs := byL_get hl
        have hll : l.length = n := by rw [← hlen, hcs, List.length_map]
        unfold byRow at hb
        split at hb
        · rename_i k n'
          split at hb
          · rename_i t e' m cs' own hk
            split at hb
            · rename_i hc
              obtain ⟨rfl, rfl⟩ := hc
              injection hb with hb; injection hb with q1 q2
              subst q1; subst q2
              cases hx with
              | os _ _ ad c h1 h2 hh =>
                have hkk := (hh _ _ hk rfl).2 rfl
                obtain ⟨h0, xs, hR, _, hC⟩ := hS.ob k _ hk
                have hxs : ∀ (j : Nat) (q : Int), l[j]? = some q → xs[j]? = some (Value.int .u8 q) := fun j q hq => by
                  have hc : cs'[j]? = some (IV.sc (.int .u8 q)) := by rw [hcs, List.getElem?_map, hq]; rfl
                  unfold CellsOk at hC
                  split at hC
                  · obtain ⟨g0, Ss, g1, _⟩ := hC
                    have hj : j < xs.length := by rw [← g0]; exact (List.getElem?_eq_some_iff.1 hc).1
                    have := g1 j _ xs[j] hc (by simp [hj])
                    generalize hv : xs[j] = v at this
                    cases this
                    rw [List.getElem?_eq_getElem hj, hv]
                  · obtain ⟨u, hu, hr⟩ := hC.get hc
                    cases hr
                    exact hu
                refine ⟨_, conv_bytes hs he hd hll (fun e => ?_) (fun b e j q hq => ?_), .im _ _ (.sc _ rfl)⟩
                · have := h2 e; omega
                · subst e
                  exact hR.cells b _ c hkk j _ (hxs j q hq)
            · cases hb
          · cases hb
        · rename_i c n' cs'
          injection hb with hb; injection hb with q1 q2
          subst q1; subst q2
          cases hx with
          | ik _ _ _ ad hx =>
            cases hx with
            | slnil =>
              refine ⟨_, conv_bytes hs he hd hll (fun _ => rfl) (fun b e => by cases e), .im _ _ (.sc _ rfl)⟩
            | sl _ _ _ a vs g1 g2 g3 g4 g5 =>
              refine ⟨_, conv_bytes hs he hd hll (fun e => by cases e) (fun b e j q hq => ?_), .im _ _ (.sc _ rfl)⟩
              obtain rfl := Option.some.inj e
              have hc : cs'[j]? = some (IV.sc (.int .u8 q)) := by rw [hcs, List.getElem?_map, hq]; rfl
              rw [g4 j (List.getElem?_eq_some_iff.1 hc).1]
              have := g5 j _ hc
              generalize vs j = u at this
              cases this
              rfl
        · cases hb
      · cases h
    · cases h
  · cases h

/-- Functions with what they capture. -/
def opcs (E : Env) : List Operand → Option (List Cell)
  | [] => some []
  | x :: r => match opd E x with | some (.c y) => (opcs E r).map (y :: ·) | _ => none
theorem opcs_ok (hE : EnvOk w ω κ σ E a.tmps) : ∀ {xs : List Operand} {cs : List Cell}, opcs E xs = some cs → (xs.map a.eval).length = cs.length ∧ ∀ j c, cs[j]? = some c → RC w ω κ σ c ((xs.map a.eval).getD j undef)
  | [], cs, h => by obtain rfl := Option.some.inj h; simp
  | x :: r, cs, h => by
    simp only [opcs] at h
    split at h
    · rename_i y hy
      obtain ⟨cs', hc, rfl⟩ := Option.map_eq_some_iff.1 h
      obtain ⟨h1, h2⟩ := opcs_ok hE hc
      refine ⟨by simpa using h1, fun j c hj => ?_⟩
      cases j with
      | zero => simp at hj; subst hj; exact opd_ok hE hy
      | succ j => exact h2 j c (by simpa using hj)
    · cases h

/-- A pointer that leads somewhere. -/
def isPtr : Cell → Bool
  | .rf _ _ | .rv _ _ _ | .im (.pt _) => true
  | _ => false
theorem isPtr_ok {x : Cell} {v : Value} (h : isPtr x = true) (hx : RC w ω κ σ x v) : ∃ a, v = .pointer (some a) := by
  cases hx with
  | im x v hx => cases hx <;> first | exact ⟨_, rfl⟩ | cases h
  | rf => exact ⟨_, rfl⟩
  | rv => exact ⟨_, rfl⟩
  | _ => cases h
def ptrNil (P : Program) (t : TypeId) (op : BinOp) : Option TV :=
  match P.underlying t, op with
  | some (.pointer _), .eql => some (.c (.im (.sc (.bool false))))
  | some (.pointer _), .neq => some (.c (.im (.sc (.bool true))))
  | _, _ => none
theorem ptrNil_ok {P : Program} {t : TypeId} {op : BinOp} {r : TV} (h : ptrNil P t op = some r) (a : Addr) (w : World) : ∃ b, r = .c (.im (.sc (.bool b))) ∧ (binOp op t (.pointer (some a)) (.pointer none)).run P w = .ok (.bool b) w ∧ (op = .eql ∨ op = .neq) := by
  unfold ptrNil at h
  split at h
  · rename_i e hu
    obtain rfl := Option.some.inj h
    exact ⟨_, rfl, by rw [run_eql_pointer_nil _ _ _ (by simp [Program.pointee, hu])]; rfl, .inl rfl⟩
  · rename_i e hu
    obtain rfl := Option.some.inj h
    exact ⟨_, rfl, by rw [run_neq_pointer_nil _ _ _ (by simp [Program.pointee, hu])]; rfl, .inr rfl⟩
  · cases h
/-- What an operation that changes no memory comes to. -/
def ev1 (P : Program) (E : Env) (σ : Sto) : Op → Option TV
  | .move x => opd E x
  | .assign x => opd E x
  | .pick c x y => match opd E c with | some (.c (.im (.sc (.bool b)))) => if b then opd E x else opd E y | _ => none
  | .load t x => (opd E x).bind fun p => evLoad P σ t p
  | .field t x f => (opd E x).bind fun p => evField P t p f
  | .fieldAddr t x f => (opd E x).bind fun p => evFieldAddr P t p f
  | .indexAddr t x i => (opd E x).bind fun p => (opd E i).bind fun j => evIndexAddr P σ t p j
  | .index t x i => (opd E x).bind fun p => (opd E i).bind fun j => evIndex P t p j
  | .build t ps => evBuild P E t ps
  | .extract x i => (opd E x).bind fun p => evExtract p i
  | .nilCheck x => match opd E x with
    | some (.c (.rf k o)) => some (.c (.rf k o))
    | some (.c (.rv k l o)) => some (.c (.rv k l o))
    | some (.c (.im (.pt cs))) => some (.c (.im (.pt cs)))
    | _ => none
  | .unOp op _ x => match op, opd E x with
    | .not, some (.c (.im (.sc (.bool b)))) => some (.c (.im (.sc (.bool (!b)))))
    | .neg, some (.c (.im (.sc (.int k n)))) => some (.c (.im (.sc (.int k (k.wrap (0 - n))))))
    | _, _ => none
  | .binOp op t x y _ => match opd E x, opd E y with
    | some (.c (.im (.sc u))), some (.c (.im (.sc v))) => (evBin P t op u v).map fun r => .c (.im (.sc r))
    | some (.c x), some (.c (.im (.sc (.pointer none)))) => if isPtr x then ptrNil P t op else none
    | _, _ => none
  | .convert s d x => (opd E x).bind fun p => (evConv P s d p).or (evBytes P σ s d p)
  | .slice t x lo hi mx => evSlice P E t x lo hi mx
  | .makeFunc (.func f) first caps => if first.size = 0 then (opcs E caps.toList).map fun cs => .c (.fn f cs) else none
  | .call c => match c.callee, c.args.toList, c.argTypes.toList with
    | .builtin .len, [x], [t] => (opd E x).bind fun p => evLen P t p
    | .builtin .max, [x, y], _ => match opd E x, opd E y with
      | some (.c (.im (.sc (.int k i)))), some (.c (.im (.sc (.int _ j)))) => some (.c (.im (.sc (.int k (if i < j then j else i)))))
      | _, _ => none
    | .builtin .min, [x, y], _ => match opd E x, opd E y with
      | some (.c (.im (.sc (.int k i)))), some (.c (.im (.sc (.int _ j)))) => some (.c (.im (.sc (.int k (if j < i then j else i)))))
      | _, _ => none
    | _, _, _ => none
  | _ => none

theorem ev1_ok {P : Program} (hS : RS w ω κ σ) (hE : EnvOk w ω κ σ E a.tmps) {o : Oper} {r : TV} (h : ev1 P E σ o.op = some r) :
    ∃ u, (execOp a.eval o).run P w = .ok (.value u) w ∧ RT w ω κ σ r u := by
  unfold ev1 at h
  split at h <;> rename_i hop
  · exact ⟨_, by simp only [execOp, hop]; rfl, opd_ok hE h⟩
  · exact ⟨_, by simp only [execOp, hop]; rfl, opd_ok hE h⟩
  · rename_i c x y
    split at h
    · rename_i b hc
      have hcv := opd_ok hE hc
      generalize hv : a.eval c = v at hcv
      cases hcv with
      | im _ _ hcv =>
        cases hcv
        refine ⟨if b then a.eval x else a.eval y, by simp [execOp, hop, hv, asBool], ?_⟩
        cases b
        · exact opd_ok hE (by simpa using h)
        · exact opd_ok hE (by simpa using h)
    · cases h
  · obtain ⟨p, hp, h⟩ := Option.bind_eq_some_iff.1 h
    obtain ⟨u, h1, h2⟩ := evLoad_ok hS h (opd_ok hE hp)
    exact ⟨u, by simp [execOp, hop, h1], h2⟩
  · obtain ⟨p, hp, h⟩ := Option.bind_eq_some_iff.1 h
    obtain ⟨u, h1, h2⟩ := evField_ok (P := P) h (opd_ok hE hp)
    exact ⟨u, by simp [execOp, hop, h1], h2⟩
  · obtain ⟨p, hp, h⟩ := Option.bind_eq_some_iff.1 h
    obtain ⟨u, h1, h2⟩ := evFieldAddr_ok (P := P) h (opd_ok hE hp)
    exact ⟨u, by simp [execOp, hop, h1], h2⟩
  · obtain ⟨p, hp, h⟩ := Option.bind_eq_some_iff.1 h
    obtain ⟨j, hj, h⟩ := Option.bind_eq_some_iff.1 h
    obtain ⟨u, h1, h2⟩ := evIndexAddr_ok hS h (opd_ok hE hp) (opd_ok hE hj)
    exact ⟨u, by simp [execOp, hop, h1], h2⟩
  · obtain ⟨p, hp, h⟩ := Option.bind_eq_some_iff.1 h
    obtain ⟨j, hj, h⟩ := Option.bind_eq_some_iff.1 h
    obtain ⟨u, h1, h2⟩ := evIndex_ok (P := P) h (opd_ok hE hp) (opd_ok hE hj)
    exact ⟨u, by simp [execOp, hop, h1], h2⟩
  · obtain ⟨u, h1, h2⟩ := evBuild_ok (P := P) hE h
    exact ⟨u, by simp only [execOp, hop]; simp [h1], h2⟩
  · obtain ⟨p, hp, h⟩ := Option.bind_eq_some_iff.1 h
    obtain ⟨u, h1, h2⟩ := evExtract_ok (P := P) h (opd_ok hE hp)
    exact ⟨u, by simp [execOp, hop, h1], h2⟩
  · rename_i x
    split at h
    · rename_i k o hx
      obtain rfl := Option.some.inj h
      have hxv := opd_ok hE hx
      generalize hv : a.eval x = v at hxv
      have hxv' := hxv
      cases hxv with
      | rf => exact ⟨_, by simp [execOp, hop, hv], hxv'⟩
    · rename_i k l o hx
      obtain rfl := Option.some.inj h
      have hxv := opd_ok hE hx
      generalize hv : a.eval x = v at hxv
      have hxv' := hxv
      cases hxv with
      | rv => exact ⟨_, by simp [execOp, hop, hv], hxv'⟩
    · rename_i cs hx
      obtain rfl := Option.some.inj h
      have hxv := opd_ok hE hx
      generalize hv : a.eval x = v at hxv
      have hxv' := hxv
      cases hxv with
      | im _ _ hp => cases hp; exact ⟨_, by simp [execOp, hop, hv], hxv'⟩
    · cases h
  · rename_i op ty x
    split at h
    · rename_i b hx
      obtain rfl := Option.some.inj h
      have hxv := opd_ok hE hx
      generalize hv : a.eval x = v at hxv
      cases hxv with
      | im _ _ hp => cases hp; exact ⟨_, by simp [execOp, hop, hv, Op.unary], .im _ _ (.sc _ rfl)⟩
    · rename_i k n hx
      obtain rfl := Option.some.inj h
      have hxv := opd_ok hE hx
      generalize hv : a.eval x = v at hxv
      cases hxv with
      | im _ _ hp => cases hp; exact ⟨_, by simp only [execOp, hop, hv, Op.unary, Op.intArith]; rfl, .im _ _ (.sc _ rfl)⟩
    · cases h
  · rename_i op t x y yt
    split at h
    · rename_i u v hx hy
      obtain ⟨r', hr, rfl⟩ := Option.map_eq_some_iff.1 h
      have hxv := opd_ok hE hx
      have hyv := opd_ok hE hy
      obtain ⟨h1, h2⟩ := evBin_ok (P := P) hr w
      generalize hv : a.eval x = vx at hxv
      generalize hw : a.eval y = vy at hyv
      cases hxv with
      | im _ _ hp =>
        cases hp
        cases hyv with
        | im _ _ hq =>
          cases hq
          refine ⟨_, ?_, .im _ _ (.sc _ h2)⟩
          have hg : eqGuard op t x y u v = pure () := by
            unfold eqGuard
            cases op <;> first | rfl | skip
            all_goals (cases u <;> cases v <;> first | rfl | (simp [evBin] at hr; done))
          simp only [execOp, hop, hv, hw, hg]
          simp [h1]
    · rename_i u hne hx hy
      split at h
      · rename_i hp
        have hxv := opd_ok hE hx
        have hyv := opd_ok hE hy
        obtain ⟨ad, had⟩ := isPtr_ok hp hxv
        obtain ⟨b, rfl, hr, hop'⟩ := ptrNil_ok (w := w) h ad
        generalize hw : a.eval y = vy at hyv
        cases hyv with
        | im _ _ hq =>
          cases hq
          refine ⟨_, ?_, .im _ _ (.sc _ rfl)⟩
          have hg : eqGuard op t x y (.pointer (some ad)) (.pointer none) = pure () := by
            rcases hop' with rfl | rfl <;> rfl
          simp only [execOp, hop, had, hw, hg]
          simp [hr]
      · cases h
    · cases h
  · obtain ⟨p, hp, h⟩ := Option.bind_eq_some_iff.1 h
    obtain ⟨u, h1, h2⟩ : ∃ u, (convert _ _ _).run P w = .ok u w ∧ RT w ω κ σ r u := by
      rcases Option.or_eq_some_iff.1 h with h | ⟨_, h⟩
      · exact evConv_ok (P := P) h (opd_ok hE hp)
      · exact evBytes_ok (P := P) hS h (opd_ok hE hp)
    exact ⟨u, by simp [execOp, hop, h1], h2⟩
  · obtain ⟨u, h1, h2⟩ := evSlice_ok (P := P) hS hE h
    exact ⟨u, by simp only [execOp, hop]; simp [h1], h2⟩
  · rename_i f first caps
    split at h
    · rename_i hf
      obtain ⟨cs, hc, rfl⟩ := Option.map_eq_some_iff.1 h
      obtain ⟨h1, h2⟩ := opcs_ok hE hc
      have hf0 : first = #[] := by simpa using hf
      refine ⟨.func (.func f) #[] (caps.toList.map a.eval).toArray, ?_, .fn f cs _ h1 h2⟩
      have e : caps.map a.eval = (caps.toList.map a.eval).toArray := by apply Array.ext'; simp
      simp [execOp, hop, Instr.makeFunc, hf0, e]
    · cases h
  · rename_i c
    split at h
    · rename_i x t hcal hargs htys
      obtain ⟨p, hp, h⟩ := Option.bind_eq_some_iff.1 h
      obtain ⟨u, h1, h2⟩ := evLen_ok (P := P) (ty := o.type) h (opd_ok hE hp)
      refine ⟨u, ?_, h2⟩
      have e1 : c.args = #[x] := by apply Array.ext'; simpa using hargs
      have e2 : c.argTypes = #[t] := by apply Array.ext'; simpa using htys
      simp [execOp, hop, resolve, hcal, e1, e2, invoke, builtin, h1]
    · rename_i x y hcal hargs
      split at h
      · rename_i k i k' j hx hy
        obtain rfl := Option.some.inj h
        have hxv := opd_ok hE hx
        have hyv := opd_ok hE hy
        generalize hv : a.eval x = vx at hxv
        generalize hw : a.eval y = vy at hyv
        cases hxv with
        | im _ _ hp =>
          cases hp
          cases hyv with
          | im _ _ hq =>
            cases hq
            refine ⟨_, ?_, .im _ _ (.sc _ rfl)⟩
            have e1 : c.args = #[x, y] := by apply Array.ext'; simpa using hargs
            simp [execOp, hop, resolve, hcal, e1, invoke, builtin, Builtin.max_, Builtin.max2, hv, hw]
      · cases h
    · rename_i x y hcal hargs
      split at h
      · rename_i k i k' j hx hy
        obtain rfl := Option.some.inj h
        have hxv := opd_ok hE hx
        have hyv := opd_ok hE hy
        generalize hv : a.eval x = vx at hxv
        generalize hw : a.eval y = vy at hyv
        cases hxv with
        | im _ _ hp =>
          cases hp
          cases hyv with
          | im _ _ hq =>
            cases hq
            refine ⟨_, ?_, .im _ _ (.sc _ rfl)⟩
            have e1 : c.args = #[x, y] := by apply Array.ext'; simpa using hargs
            simp [execOp, hop, resolve, hcal, e1, invoke, builtin, Builtin.min_, Builtin.min2, hv, hw]
      · cases h
    · cases h
  · cases h
end
end Go.VC
