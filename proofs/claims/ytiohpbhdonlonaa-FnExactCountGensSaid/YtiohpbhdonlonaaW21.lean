/- Rules for the simplifier: no statement of a program. -/
import Derived.Test.YtiohpbhdonlonaaW20
set_option linter.unusedSimpArgs false
set_option linter.unusedVariables false
namespace Go.VC
open Go Go.RowKit
section
variable {P : Program} {σ : Sto}

theorem ixa_im {t n : Nat} {cs : List IV} {k : IntKind} {i : Int} (h : 0 ≤ i ∧ i < (n : Int)) : evIndexAddr P σ t (.c (.im (.sl n cs))) (.c (.im (.sc (.int k i)))) = (elOf P t).bind fun q => some (.c (.im (.pt (cs.drop (i.toNat * q.2))))) := by
  simp only [evIndexAddr, if_pos h]
theorem ixa_ik {t c n : Nat} {cs : List IV} {k : IntKind} {i : Int} (h : 0 ≤ i ∧ i < (n : Int)) : evIndexAddr P σ t (.c (.ik c n cs)) (.c (.im (.sc (.int k i)))) = (elOf P t).bind fun q => some (.c (.im (.pt (cs.drop (i.toNat * q.2))))) := by
  simp only [evIndexAddr, if_pos h]
theorem ixa_os {t j n : Nat} {k : IntKind} {i : Int} (h : 0 ≤ i ∧ i < (n : Int)) : evIndexAddr P σ t (.c (.os j n)) (.c (.im (.sc (.int k i)))) = (elOf P t).bind fun q => match (get σ j).bind Ob.len? with | some m => if m = n then some (.c (.rv j n (i.toNat * q.2))) else none | none => none := by
  simp only [evIndexAddr, if_pos h]
  congr 1
  funext q
  split <;> first | rfl | (split <;> first | rfl | simp_all)
theorem ix_str {t : Nat} {s : ByteArray} {k : IntKind} {i : Int} (h : 0 ≤ i ∧ i < (s.size : Int)) : evIndex P t (.c (.im (.sc (.string s)))) (.c (.im (.sc (.int k i)))) = match P.underlying t with | some .string => some (.c (.im (.sc (.int .u8 ((s.data.toList.getD i.toNat 0).toNat : Int))))) | _ => none := by
  simp only [evIndex, if_pos h]
  rfl

/-- How many cells an element takes. -/
class Wid {α : Type} (E : α → List IV) (z : outParam Nat) : Prop where
  wid : ∀ a, (E a).length = z
instance : Wid eS 1 := ⟨fun _ => rfl⟩
instance : Wid eI 1 := ⟨fun _ => rfl⟩
theorem flat_drop_at {α : Type} {E : α → List IV} {z : Nat} [w : Wid E z] {xs : List α} {i : Nat} (h : i < xs.length) : (xs.flatMap E).drop (i * z) = E xs[i] ++ (xs.drop (i + 1)).flatMap E := flat_drop w.wid (by simp [h])
/-- A pointer to an element. -/
theorem pt_at {α : Type} {E : α → List IV} {z : Nat} [Wid E z] {xs : List α} {i : Nat} (h : i < xs.length) : IV.pt ((xs.flatMap E).drop (i * z)) = .pt (E xs[i] ++ (xs.drop (i + 1)).flatMap E) := by rw [flat_drop_at h]
theorem pt_at1 {α : Type} {E : α → List IV} [Wid E 1] {xs : List α} {i : Nat} (h : i < xs.length) : IV.pt ((xs.flatMap E).drop i) = .pt (E xs[i] ++ (xs.drop (i + 1)).flatMap E) := by
  have := pt_at (E := E) h
  rwa [Nat.mul_one] at this
theorem flat_get {α : Type} {E : α → List IV} {z : Nat} [w : Wid E z] {xs : List α} {i c : Nat} (h : i < xs.length) (hc : c < z) : (xs.flatMap E)[i * z + c]? = (E xs[i])[c]? := by
  have := congrArg (·[c]?) (flat_drop_at (E := E) h)
  simp only [List.getElem?_drop] at this
  rw [this, List.getElem?_append_left (by rw [w.wid]; exact hc)]
theorem flat_get0 {α : Type} {E : α → List IV} {z : Nat} [w : Wid E z] {xs : List α} {i : Nat} (h : i < xs.length) (hc : 0 < z) : (xs.flatMap E)[i * z]? = (E xs[i])[0]? := flat_get (c := 0) h hc
theorem flat_get1 {α : Type} {E : α → List IV} [w : Wid E 1] {xs : List α} {i : Nat} (h : i < xs.length) : (xs.flatMap E)[i]? = (E xs[i])[0]? := by
  have := flat_get0 (E := E) h (by omega)
  rwa [Nat.mul_one] at this
theorem flat_len' {α : Type} {E : α → List IV} {z : Nat} [w : Wid E z] {xs : List α} : (xs.flatMap E).length = xs.length * z := flat_len w.wid xs
theorem wrap64 {x : Int} (h : -9223372036854775808 ≤ x ∧ x ≤ 9223372036854775807) : IntKind.i64.wrap x = x := wrap_i64 h.1 h.2
theorem toNat_pred (i : Nat) : ((i : Int) - 1).toNat = i - 1 := by omega
theorem toNat_succ (i : Nat) : ((i : Int) + 1).toNat = i + 1 := by omega
theorem cast_succ (i : Nat) : ((i + 1 : Nat) : Int) = (i : Int) + 1 := rfl
theorem allSc_eS (xs : List ByteArray) : allSc (xs.flatMap eS) = true := by
  induction xs with
  | nil => rfl
  | cons x r ih => simpa [eS, allSc] using ih
theorem allSc_eI (xs : List Int) : allSc (xs.flatMap eI) = true := by
  induction xs with
  | nil => rfl
  | cons x r ih => simpa [eI, allSc] using ih
theorem allSc_append (a b : List IV) : allSc (a ++ b) = (allSc a && allSc b) := by
  induction a with
  | nil => rfl
  | cons x r ih => cases x <;> simp [allSc, ih]
theorem flat_one {α : Type} {E : α → List IV} (x : α) : [x].flatMap E = E x := by simp
theorem take_at {α : Type} {xs : List α} {i : Nat} (h : i < xs.length) : xs.take (i + 1) = xs.take i ++ [xs[i]] := by rw [List.take_succ_eq_append_getElem h]
theorem drop_at {α : Type} {xs : List α} {i : Nat} (h : i < xs.length) : xs.drop i = xs[i] :: xs.drop (i + 1) := List.drop_eq_getElem_cons h
theorem take_eq_at {α : Type} {xs ys : List α} {i : Nat} (ht : xs.take i = ys.take i) (h : i < xs.length) (h' : i < ys.length) (he : xs[i] = ys[i]) : xs.take (i + 1) = ys.take (i + 1) := by rw [take_at h, take_at h', ht, he]
/-- How long a given row is. -/
class LenZ (zs : List IV) (z : Nat) : Prop where
  len : zs.length = z
instance : LenZ [] 0 := ⟨rfl⟩
instance {a : IV} {l : List IV} {n : Nat} [h : LenZ l n] : LenZ (a :: l) (n + 1) := ⟨congrArg (· + 1) h.len⟩
theorem filled_len' {α : Type} {E : α → List IV} {zs : List IV} {z : Nat} [w : Wid E z] [hz : LenZ zs z] {xs : List α} {i : Nat} (h : i ≤ xs.length) : (filled E zs xs i).length = xs.length * z := filled_len w.wid hz.len h
theorem filled_step' {α : Type} {E : α → List IV} {zs : List IV} {z : Nat} [w : Wid E z] [hz : LenZ zs z] {xs : List α} {i : Nat} (h : i < xs.length) : setL (filled E zs xs i) (i * z) (E xs[i]) = filled E zs xs (i + 1) := filled_step w.wid hz.len (by simp [h])
theorem filled_step1 {zs : List IV} [hz : LenZ zs 1] {xs : List ByteArray} {i : Nat} (h : i < xs.length) : (filled eS zs xs i).set i (.sc (.string xs[i])) = filled eS zs xs (i + 1) := by
  have := filled_step' (E := eS) (zs := zs) h
  rwa [Nat.mul_one] at this
theorem filled_stepI {zs : List IV} [hz : LenZ zs 1] {xs : List Int} {i : Nat} (h : i < xs.length) : (filled eI zs xs i).set i (.sc (.int .i64 xs[i])) = filled eI zs xs (i + 1) := by
  have := filled_step' (E := eI) (zs := zs) h
  rwa [Nat.mul_one] at this
end

theorem optBind_congr {α β : Type} {o o' : Option α} {f : α → Option β} (h : o = o') : o.bind f = o'.bind f := by rw [h]
attribute [congr] optBind_congr
theorem keysL_im : ∀ (cs : List IV), keysL (cs.map .im) = []
  | [] => rfl
  | x :: r => by rw [List.map_cons, keysL, keysL_im r]; rfl
end Go.VC
