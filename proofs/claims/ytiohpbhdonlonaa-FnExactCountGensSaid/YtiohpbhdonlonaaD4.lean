/- Reading lists. -/
import Derived.Test.YtiohpbhdonlonaaD3
namespace Go.VC
open Go
theorem rdS {P : Program} {t e : TypeId} {m : Nat} {α : Type} {E : α → List IV} {ok : Nat → α → Prop} {z y : Nat} (ht : P.underlying t = some (.slice e)) (hz : P.cellsOf e = z) (hy : P.bytesOf e = y) (h1 : 1 ≤ y)
    (h : ∀ k, k < m → Rd P e k E (ok (2^48))) : Rd P t m (fun xs : List α => [slI E xs]) (okLs (2^48) ok) := by
  cases m with
  | zero => exact .zero
  | succ m =>
    refine (rd_slice ht hz hy (h m (by omega))).map id (fun _ _ => rfl) fun a h => ⟨?_, h.1⟩
    have h2 := h.2.2.2
    have h3 : a.length ≤ a.length * y := Nat.le_mul_of_pos_right _ (by omega)
    simp [reachBytes] at h2
    show a.length ≤ 2 ^ 48
    omega
theorem rdStr {P : Program} {t : TypeId} {m : Nat} (ht : P.underlying t = some .string) : Rd P t m eS (okS (2^48)) :=
  (rd_string ht m).map id (fun _ _ => rfl) fun a h => by simp [reachBytes] at h; show a.size ≤ 2 ^ 48; omega
theorem rdI {P : Program} {t : TypeId} {m : Nat} (ht : P.underlying t = some (.int .i64)) : Rd P t m (fun n : Int => [.sc (.int .i64 n)]) ok64 :=
  (rd_i64 ht m).map id (fun _ _ => rfl) fun _ h => h
end Go.VC
