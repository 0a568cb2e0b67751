/- What types terms have: the reference's function, by recursion. -/
import Derived.Test.YtgljcadheoijfaaGreatG8L26
import Derived.Test.YtgljcadheoijfaaGreatG5L26
import Derived.Test.YtgljcadheoijfaaGreatG7L26
import Derived.Test.YtgljcadheoijfaaGreatG6L26
namespace Go.VC
open Go
mutual
theorem msz_le : ∀ v : Tm, msz v ≤ 1 + zTm v
  | .mk k s n t l ws => by
    have := mszL_le ws
    rw [msz, zTm_eta]
    show 1 + mszL ws ≤ 1 + (zS s + zTy t + zSL l + zL zTm ws)
    omega
theorem mszL_le : ∀ l : List Tm, mszL l ≤ zL zTm l
  | [] => by simp [mszL]
  | a :: r => by
    have h1 := msz_le a
    have h2 := mszL_le r
    unfold zL at *
    rw [mszL]; simp only [List.length_cons, List.map_cons, List.sum_cons]; omega
end
theorem sum_mem {α : Type} {z : α → Nat} {x : α} : ∀ {l : List α}, x ∈ l → z x ≤ (l.map z).sum
  | a :: r, h => by
    rw [List.map_cons, List.sum_cons]
    rcases List.mem_cons.1 h with rfl | h
    · omega
    · have := sum_mem (z := z) h; omega
theorem zTm_lt {v a : Tm} (h : a ∈ v.args) : zTm a + v.args.length ≤ zTm v := by
  have h2 : zTm a ≤ (v.args.map zTm).sum := sum_mem h
  rw [zTm_eta v]; unfold zL; omega
theorem ok_ty0 : okTy (2^20) ty0 := by
  refine okTy_iff.2 ⟨⟨by decide, by decide⟩, ⟨by simp [ty0, Ty.labels], by simp [ty0, Ty.labels]⟩, ⟨by simp [ty0, Ty.args], by simp [ty0, Ty.args]⟩⟩
theorem nd_none {e : Tm} (h : NdOk e) (k : e.kind = 1 ∨ e.kind = 2 ∨ e.kind = 3 ∨ e.kind = 7 ∨ e.kind = 12) : e.args.length = 0 := by
  have := h.1
  unfold arK at this
  rw [if_pos k] at this
  exact (Option.some.inj this).symm
theorem TyRes.of {P : Program} {g : FuncId} {args : List TV} {o : Option Ty} (h : FnP P g args (.tp [agT (eTy (o.getD ty0)), bT o.isSome])) : TyRes P g args o := ⟨_, h, fun t h => by rw [h]; rfl⟩
theorem tyO_ok {s : List Decl} {n : Nat} {ctx : List Decl} {e : Tm} : okTy (2^20) ((tyO s n ctx e).getD ty0) := by
  cases h : tyO s n ctx e with
  | none => exact ok_ty0
  | some t => exact (okT_some h).2.ok
theorem nd_pos {e : Tm} (h : NdOk e) (k : ¬ e.kind = 1 ∧ ¬ e.kind = 2 ∧ ¬ e.kind = 3 ∧ ¬ e.kind = 12 ∧ ¬ e.kind = 7) : ¬ e.args.length = 0 := by
  intro h0
  rcases nd_kind h with g | g | g | g | g | g | g | g | g | g | g | g | g | g | g | g
  · exact k.1 g
  · exact k.2.1 g
  · exact k.2.2.1 g
  · exact k.2.2.2.2 g
  · exact k.2.2.2.1 g
  · have := nd_op h g
    have h1 := h.1
    unfold arK at h1
    rw [if_neg (by omega), if_pos g, if_neg this] at h1
    have := Option.some.inj h1
    omega
  · have := nd_rec h g
    have := this.1.2.1
    omega
  all_goals first | (have := nd_one h (by omega); omega) | (have := nd_two h (by omega); omega) | (have := nd_three h (by omega); omega)
end Go.VC
namespace Go.VC.T
open Go Go.VC Go.Proofs Go.VC.F
set_option linter.unusedSimpArgs false
set_option linter.unusedVariables false
set_option maxRecDepth 100000
set_option maxHeartbeats 2000000
/-- Forms that bind nothing. -/
theorem sform_res (e : Tm) (hN : NdOk e) (hk : ¬ e.kind = 1 ∧ ¬ e.kind = 2 ∧ ¬ e.kind = 3 ∧ ¬ e.kind = 12 ∧ ¬ e.kind = 7 ∧ ¬ e.kind = 10 ∧ ¬ e.kind = 13) (ho : okTm (2^20) e) (l : List Ty) (hl : l.length = e.args.length) (hT : ∀ t ∈ l, TyOk t) :
    TyRes Tryz.prog 108 [agT (eTm e), slT eTy l] (plainT e l) := by
  obtain ⟨k1, k2, k3, k12, k7, k10, k13⟩ := hk
  have hln := (okTm_iff.1 ho).2.2.2.2.2.1
  have hlo : ∀ t ∈ l, okTy (2^20) t := fun t h => (hT t h).ok
  rcases nd_kind hN with k | k | k | k | k | k | k | k | k | k | k | k | k | k | k | k
  · exact absurd k k1
  · exact absurd k k2
  · exact absurd k k3
  · exact absurd k k7
  · exact absurd k k12
  · have e1 : plainT e l = opT e.name l := by unfold plainT; rw [if_pos k]
    rw [e1]
    exact TyRes.of (sf4_of e l k _ _ (specOp_ok e.name (nd_op hN k) l (by omega)))
  · have e1 : plainT e l = some (tRec e.labels l) := by unfold plainT; rw [if_neg (by omega), if_pos k]
    rw [e1]
    have hr := nd_rec hN k
    exact TyRes.mk (sf5_of e (by have := hr.1.2.1; omega) l ⟨by omega, hlo⟩ k) rfl fun t h => Option.some.inj h
  · obtain ⟨a, rfl⟩ := len1 (hl.trans (nd_one hN (by omega)))
    have e1 : plainT e [a] = fieldT a e.name := by unfold plainT; simp only [k]; rfl
    rw [e1]
    have ha := hT a List.mem_cons_self
    exact TyRes.of (sf6_of e [a] k (by simp) _ _ (specField_ok a ha.ok (by have := ha.z; omega) e.name))
  · obtain ⟨a, rfl⟩ := len1 (hl.trans (nd_one hN (by omega)))
    have e1 : plainT e [a] = some (tBag a) := by unfold plainT; simp only [k]; rfl
    rw [e1]
    exact TyRes.mk (sf8_of e [a] k (by simp) (hlo _ List.mem_cons_self)) rfl fun t h => Option.some.inj h
  · exact absurd k k13
  · obtain ⟨a, rfl⟩ := len1 (hl.trans (nd_one hN (by omega)))
    have e1 : plainT e [a] = if a.kind = 4 then some tBool else none := by unfold plainT; simp only [k]; rfl
    rw [e1]
    refine TyRes.mk (sf15_of e [a] k (by simp)) ?_ fun t h => ?_
    · show decide (a.kind = 4) = _
      by_cases c : a.kind = 4 <;> simp [c]
    · split at h
      · exact Option.some.inj h
      · cases h
  · obtain ⟨a, rfl⟩ := len1 (hl.trans (nd_one hN (by omega)))
    have e1 : plainT e [a] = if a.kind = 4 then some tInt else none := by unfold plainT; simp only [k]; rfl
    rw [e1]
    refine TyRes.mk (sf16_of e [a] k (by simp)) ?_ fun t h => ?_
    · show decide (a.kind = 4) = _
      by_cases c : a.kind = 4 <;> simp [c]
    · split at h
      · exact Option.some.inj h
      · cases h
  · obtain ⟨a, b, rfl⟩ := len2 (hl.trans (nd_two hN (by omega)))
    have e1 : plainT e [a, b] = if a.kind = 4 ∧ a = b then some a else none := by unfold plainT; simp only [k]; rfl
    rw [e1]
    refine TyRes.mk (sf9_of e [a, b] hlo k (by simp) (by simp) _ rfl) ?_ fun t h => ?_
    · show decide (a.kind = 4 ∧ a = b) = _
      by_cases c : a.kind = 4 ∧ a = b
      · rw [if_pos c, decide_eq_true c]; rfl
      · rw [if_neg c, decide_eq_false c]; rfl
    · split at h
      · exact Option.some.inj h
      · cases h
  · exact absurd k k10
  · obtain ⟨a, b, rfl⟩ := len2 (hl.trans (nd_two hN (by omega)))
    have ha := hT a List.mem_cons_self
    by_cases c : a.kind = 5
    · obtain ⟨x, y, hxy⟩ := len2 (ha.fn c).2
      have e1 : plainT e [a, b] = if a.kind = 5 ∧ x = b then some y else none := by unfold plainT; simp only [k, hxy]; rfl
      rw [e1]
      by_cases hx : x = b
      · have hx0 : a.args[0]'(by rw [hxy]; simp) = b := by simp [hxy, hx]
        have hh := sf14_a e [a, b] hlo k (by simp) (by simp) c (by rw [List.getElem_cons_zero, hxy]; simp) (by rw [List.getElem_cons_zero, hxy]; simp) hx0
        have ey : ([a, b][0].args[1]'(by rw [List.getElem_cons_zero, hxy]; simp)) = y := by simp [hxy]
        simp only [ey] at hh
        rw [if_pos ⟨c, hx⟩]
        exact TyRes.mk hh rfl (fun t h => Option.some.inj h)
      · have hx0 : ¬ a.args[0]'(by rw [hxy]; simp) = b := by simpa [hxy] using hx
        have hh := sf14_b e [a, b] hlo k (by simp) (by simp) c (by rw [List.getElem_cons_zero, hxy]; simp) hx0
        rw [if_neg fun h => hx h.2]
        have h2 : FnP Tryz.prog 108 [agT (eTm e), slT eTy [a, b]] (.tp [agT (eTy ty0), bT false]) := hh.treeP rfl
        exact TyRes.mk h2 rfl (fun t h => by cases h)
    · have e1 : plainT e [a, b] = none := by
        unfold plainT; simp only [k]
        show (match a.args with | [x, y] => if a.kind = 5 ∧ x = b then some y else none | _ => none) = none
        split
        · rw [if_neg fun h => c h.1]
        · rfl
      rw [e1]
      have h2 : FnP Tryz.prog 108 [agT (eTm e), slT eTy [a, b]] (.tp [agT (eTy ty0), bT false]) := (sf14_c e [a, b] k (by simp) c).treeP rfl
      exact TyRes.mk h2 rfl (fun t h => by cases h)
  · obtain ⟨a, b, c, rfl⟩ := len3 (hl.trans (nd_three hN k))
    have e1 : plainT e [a, b, c] = if a.kind = 2 ∧ b = c then some b else none := by unfold plainT; simp only [k]; rfl
    rw [e1]
    refine TyRes.mk (sf11_of e [a, b, c] hlo k (by simp) (by simp) (by simp) _ rfl) ?_ fun t h => ?_
    · show decide (a.kind = 2 ∧ b = c) = _
      by_cases g : a.kind = 2 ∧ b = c
      · rw [if_pos g, decide_eq_true g]; rfl
      · rw [if_neg g, decide_eq_false g]; rfl
    · split at h
      · exact Option.some.inj h
      · cases h
theorem stype_res (s ctx : List Decl) (e : Tm) (o : Option Ty) (H : TyRes Tryz.prog 90 [agT (eSch s), slT eDecl ctx, agT (eTm e)] o) (hb : ∀ t, o = some t → okTy (2^20) t ∧ zTy t ≤ 2^40) :
    FnP Tryz.prog 67 [agT (eSch s), slT eDecl ctx, agT (eTm e)] (.tp [agT (eTy ((okT o).getD ty0)), bT (okT o).isSome]) := by
  cases o with
  | none =>
    obtain ⟨t', h⟩ := H.no
    exact (sType_c s ctx e t' h).treeP rfl
  | some t =>
    obtain ⟨h1, h2⟩ := hb t rfl
    by_cases h : TyOk t
    · rw [okT_of rfl h]; exact sType_a s ctx e t h H.yes
    · rw [okT_no rfl h]; exact (sType_b s ctx e t h h1 h2 H.yes).treeP rfl
/-- What the reference's function is known to do, for terms of a size. -/
def SOfN (s : List Decl) (n : Nat) : Prop := ∀ e : Tm, msz e ≤ n → TmF e → okTm (2^20) e → ∀ ctx : List Decl, CtxOk ctx → ctx.length + zTm e ≤ 2^20 + 2 → FnP Tryz.prog 67 [agT (eSch s), slT eDecl ctx, agT (eTm e)] (.tp [agT (eTy ((tyO s n ctx e).getD ty0)), bT (tyO s n ctx e).isSome])
theorem some_res (s : List Decl) (hs : okSch (2^20) s) (hrow : ∀ d ∈ s, TyOk d.row) (n : Nat) (IH : SOfN s n) (e : Tm) (he : msz e ≤ n + 1) (hF : TmF e) (ho : okTm (2^20) e) (ctx : List Decl) (hc : CtxOk ctx) (hl : ctx.length + zTm e ≤ 2^20 + 2) :
    TyRes Tryz.prog 90 [agT (eSch s), slT eDecl ctx, agT (eTm e)] (tyN s (n + 1) ctx e) := by
  obtain ⟨hN, hFa⟩ := (TmF_eta e).1 hF
  have hoa := (okTm_iff.1 ho).2.2.2.2.2.2
  have hlc : ctx.length ≤ 2^40 := by omega
  have hco : ∀ d ∈ ctx, okTy (2^20) d.row := fun d hd => (hc d hd).ok
  have hsub : ∀ a ∈ e.args, ∀ ctx : List Decl, CtxOk ctx → ctx.length + zTm a ≤ 2^20 + 2 → FnP Tryz.prog 67 [agT (eSch s), slT eDecl ctx, agT (eTm a)] (.tp [agT (eTy ((tyO s n ctx a).getD ty0)), bT (tyO s n ctx a).isSome]) := fun a ha ctx h1 h2 =>
    IH a (by have := msz_arg ha; omega) (hFa a ha) (hoa a ha) ctx h1 h2
  by_cases k1 : e.kind = 1
  · have e1 : tyN s (n + 1) ctx e = lookT ctx e.name := by rw [tyN, if_pos k1]
    rw [e1]
    exact TyRes.of (some_b s ctx e (by omega) (by omega) (nd_none hN (by omega)) _ _ (leaf1_of s ctx hlc hco e k1))
  by_cases k2 : e.kind = 2
  · have e1 : tyN s (n + 1) ctx e = some tInt := by rw [tyN, if_neg k1, if_pos k2]
    rw [e1]
    exact TyRes.mk (some_b s ctx e (by omega) (by omega) (nd_none hN (by omega)) _ _ (leaf2_of s ctx e k2)) rfl fun t h => Option.some.inj h
  by_cases k3 : e.kind = 3
  · have e1 : tyN s (n + 1) ctx e = some tBool := by rw [tyN, if_neg k1, if_neg k2, if_pos k3]
    rw [e1]
    exact TyRes.mk (some_b s ctx e (by omega) (by omega) (nd_none hN (by omega)) _ _ (leaf3_of s ctx e k3)) rfl fun t h => Option.some.inj h
  by_cases k12 : e.kind = 12
  · have e1 : tyN s (n + 1) ctx e = (rowT s e.name).map tBag := by rw [tyN, if_neg k1, if_neg k2, if_neg k3, if_pos k12]
    rw [e1]
    have hob : okTy (2^20) ((rowT s e.name).getD ty0) := by
      cases h : rowT s e.name with
      | none => exact ok_ty0
      | some t =>
        obtain ⟨d, hd, rfl⟩ := rowT_mem h
        exact (hrow d hd).ok
    refine TyRes.mk (some_b s ctx e (by omega) (by omega) (nd_none hN (by omega)) _ _ (leaf12_of s ctx hs e k12 hob)) (by cases rowT s e.name <;> rfl) fun t h => ?_
    obtain ⟨u, hu, rfl⟩ := Option.map_eq_some_iff.1 h; rw [hu]; rfl
  by_cases k7 : e.kind = 7
  · have e1 : tyN s (n + 1) ctx e = some (tBag e.ty) := by rw [tyN, if_neg k1, if_neg k2, if_neg k3, if_neg k12, if_pos k7]
    rw [e1]
    exact TyRes.mk (some_b s ctx e (by omega) (by omega) (nd_none hN (by omega)) _ _ (leaf7_of s ctx e k7 (nd_ty hN (.inl k7)).ok)) rfl fun t h => Option.some.inj h
  by_cases k10 : e.kind = 10
  · obtain ⟨a, b, hab⟩ := len2 (nd_two hN (.inr (.inl k10)))
    have h0 : 0 < e.args.length := by rw [hab]; simp
    have h1 : 1 < e.args.length := by rw [hab]; simp
    have ea : e.args[0] = a := by simp [hab]
    have eb : e.args[1] = b := by simp [hab]
    have ha := List.getElem_mem h0
    have hbm := List.getElem_mem h1
    have za := zTm_lt ha
    have zb := zTm_lt hbm
    have Ha := hsub _ ha ctx hc (by omega)
    have e1 : tyN s (n + 1) ctx e = (tyO s n ctx e.args[0]).bind fun t => match t.args with
        | [x] => if t.kind = 4 then (tyO s n (ctx ++ [⟨e.name, x⟩]) e.args[1]).bind fun u => if u.kind = 4 then some u else none else none
        | _ => none := by
      rw [tyN, if_neg k1, if_neg k2, if_neg k3, if_neg k12, if_neg k7, if_pos k10, ea, eb, hab]; rfl
    rw [e1]
    cases hA : tyO s n ctx e.args[0] with
    | none =>
      rw [hA] at Ha
      have h2 : FnP Tryz.prog 106 [agT (eSch s), slT eDecl ctx, agT (eTm e)] (.tp [agT (eTy ty0), bT false]) := (sb10_a s ctx e k10 h0 ty0 false (by simp) Ha).treeP rfl
      exact TyRes.mk (some_a s ctx e (.inr k10) _ _ h2) rfl (fun t h => by cases h)
    | some t =>
      rw [hA] at Ha
      have Ha : FnP Tryz.prog 67 [agT (eSch s), slT eDecl ctx, agT (eTm e.args[0])] (.tp [agT (eTy t), bT true]) := Ha
      have hT := (okT_some hA).2
      by_cases hk : t.kind = 4
      · obtain ⟨x, hx⟩ := len1 (hT.bag hk).2
        have hx0 : 0 < t.args.length := by rw [hx]; simp
        have ex : t.args[0] = x := by simp [hx]
        have hxk : TyOk t.args[0] := by
          refine ⟨?_, ?_, hT.arg (List.getElem_mem hx0)⟩
          · have h1 := hT.1
            have h2 := tsz_eta t
            have h3 := tszT_succ (l := t.args) (i := 0) hx0
            have h4 := tszT_le (l := t.args) (i := 0 + 1)
            omega
          · exact tdpL_le.1 (show tdpL t.args ≤ 7 by have := tdp_eta t; have := hT.2.1; omega) _ (List.getElem_mem hx0)
        have Hb := hsub _ hbm (ctx ++ [⟨e.name, t.args[0]⟩]) (ctxOk_app hc hxk) (by simp; omega)
        have e2 : ((some t).bind fun t => match t.args with
            | [x] => if t.kind = 4 then (tyO s n (ctx ++ [⟨e.name, x⟩]) e.args[1]).bind fun u => if u.kind = 4 then some u else none else none
            | _ => none) = (tyO s n (ctx ++ [⟨e.name, t.args[0]⟩]) e.args[1]).bind fun u => if u.kind = 4 then some u else none := by
          rw [Option.bind_some, ex]; simp only [hx, hk, if_true]
        rw [e2]
        have hS := some_a s ctx e (.inr k10) _ _ (sb10_b s ctx (by omega) e k10 h0 h1 t _ _ hk hx0 Ha Hb)
        cases hB : tyO s n (ctx ++ [⟨e.name, t.args[0]⟩]) e.args[1] with
        | none => rw [hB] at hS; exact TyRes.mk hS rfl (fun u hu => by cases hu)
        | some u =>
          rw [hB] at hS
          refine TyRes.mk hS ?_ fun v hv => ?_
          · show (true && decide (u.kind = 4)) = _
            by_cases g : u.kind = 4 <;> simp [g]
          · rw [Option.bind_some] at hv
            split at hv
            · exact Option.some.inj hv
            · cases hv
      · have e2 : ((some t).bind fun t => match t.args with
            | [x] => if t.kind = 4 then (tyO s n (ctx ++ [⟨e.name, x⟩]) e.args[1]).bind fun u => if u.kind = 4 then some u else none else none
            | _ => none) = none := by
          rw [Option.bind_some]
          split
          · rw [if_neg hk]
          · rfl
        rw [e2]
        have h2 : FnP Tryz.prog 106 [agT (eSch s), slT eDecl ctx, agT (eTm e)] (.tp [agT (eTy ty0), bT false]) := (sb10_a s ctx e k10 h0 t true (fun h => hk h.2) Ha).treeP rfl
        exact TyRes.mk (some_a s ctx e (.inr k10) _ _ h2) rfl (fun t h => by cases h)
  by_cases k13 : e.kind = 13
  · obtain ⟨a, hab⟩ := len1 (nd_one hN (.inr (.inr (.inl k13))))
    have h0 : 0 < e.args.length := by rw [hab]; simp
    have ea : e.args[0] = a := by simp [hab]
    have ha := List.getElem_mem h0
    have za := zTm_lt ha
    have hty := nd_ty hN (.inr k13)
    have Ha := hsub _ ha (ctx ++ [⟨e.name, e.ty⟩]) (ctxOk_app hc hty) (by simp; omega)
    have e1 : tyN s (n + 1) ctx e = (tyO s n (ctx ++ [⟨e.name, e.ty⟩]) e.args[0]).map fun t => tFun e.ty t := by
      rw [tyN, if_neg k1, if_neg k2, if_neg k3, if_neg k12, if_neg k7, if_neg k10, if_pos k13, ea, hab]; rfl
    rw [e1]
    have zn : 1 ≤ zTm e := by omega
    have hcl : ctx.length ≤ 2^20 := by
      have hn : NameOk e.name := by
        have := hN.2.2.2.1
        unfold NdNm at this
        rwa [if_pos (show nmK e.kind from .inr (.inr (.inr (.inr k13))))] at this
      have h1 : 1 ≤ zS e.name := hn.2.1.1
      have h2 := zTm_eta e
      have h3 := zL_len (z := zTm) (l := e.args)
      omega
    have hS := some_a s ctx e (.inl k13) _ _ (sb13_of s ctx hcl e k13 h0 hty.ok _ tyO_ok _ Ha)
    refine TyRes.mk hS (by cases tyO s n (ctx ++ [⟨e.name, e.ty⟩]) e.args[0] <;> rfl) fun t h => ?_
    obtain ⟨u, hu, rfl⟩ := Option.map_eq_some_iff.1 h
    rw [hu]; rfl
  have e1 : tyN s (n + 1) ctx e = (allT (e.args.map fun a => tyO s n ctx a)).bind fun l => plainT e l := by
    rw [tyN, if_neg k1, if_neg k2, if_neg k3, if_neg k12, if_neg k7, if_neg k10, if_neg k13]; rfl
  rw [e1]
  have k0 : ¬ e.args.length = 0 := nd_pos hN ⟨k1, k2, k3, k12, k7⟩
  have Hall : ∀ u ∈ e.args, FnP Tryz.prog 67 [agT (eSch s), slT eDecl ctx, agT (eTm u)] (.tp [agT (eTy ((tyO s n ctx u).getD ty0)), bT (tyO s n ctx u).isSome]) := fun u hu => hsub u hu ctx hc (by have := zTm_lt hu; omega)
  cases hA : allT (e.args.map fun a => tyO s n ctx a) with
  | none =>
    have h2 : FnP Tryz.prog 90 [agT (eSch s), slT eDecl ctx, agT (eTm e)] (.tp [agT (eTy ty0), bT false]) := (some_d s ctx e ho k13 k10 k0 (fun a => tyO s n ctx a) Hall hA).treeP rfl
    exact TyRes.mk h2 rfl (fun t h => by cases h)
  | some l =>
    have hlen : l.length = e.args.length := by rw [allT_len hA, List.length_map]
    have hT : ∀ t ∈ l, TyOk t := fun t ht => by
      obtain ⟨a, ha, hat⟩ := List.mem_map.1 (allT_mem hA ht)
      exact (okT_some hat).2
    have Hp := sform_res e hN ⟨k1, k2, k3, k12, k7, k10, k13⟩ ho l hlen hT
    rw [Option.bind_some]
    obtain ⟨t', ht', hte⟩ := Hp
    exact ⟨t', some_c s ctx e ho k13 k10 k0 (fun a => tyO s n ctx a) Hall l hA t' _ ht', hte⟩
theorem sof_all (s : List Decl) (hs : okSch (2^20) s) (hrow : ∀ d ∈ s, TyOk d.row) : ∀ n, SOfN s n
  | 0 => fun e he => by cases e; simp only [msz] at he; omega
  | n + 1 => fun e he hF ho ctx hc hl => by
    have hm := msz_le e
    exact stype_res s ctx e _ (some_res s hs hrow n (sof_all s hs hrow n) e he hF ho ctx hc hl) (form_res s hs hrow n (of_all s hs hrow n) e he hF ho ctx hc (by omega)).2
end Go.VC.T
/- Does a term have a base type? Both sides. -/
namespace Go.VC
open Go
theorem hasB_eq (s ctx : List Decl) (e : Tm) (k : Int) : (decide (TmF e) && (decide (BsT false e) && ((tyO s (msz e) ctx e).isSome && decide (((tyO s (msz e) ctx e).getD ty0).kind = k)))) = hasB s ctx e k := by
  unfold hasB
  cases tyO s (msz e) ctx e with
  | none => simp
  | some t => by_cases h1 : TmF e <;> by_cases h2 : BsT false e <;> by_cases h3 : t.kind = k <;> simp [h1, h2, h3]
theorem hasB_eq2 (s ctx : List Decl) (e : Tm) (t : Ty) (b : Bool) (hb : b = (tyO s (msz e) ctx e).isSome) (ht : ∀ u, tyO s (msz e) ctx e = some u → t = u) (k : Int) : (decide (TmF e) && (decide (BsT false e) && (b && decide (t.kind = k)))) = hasB s ctx e k := by
  rw [← hasB_eq]
  cases h : tyO s (msz e) ctx e with
  | none => rw [h] at hb; subst hb; simp
  | some u => rw [h] at hb; subst hb; rw [ht u h]; rfl
theorem tBool_iff {t : Ty} (h : TyOk t) : t = tBool ↔ t.kind = 2 := by
  constructor
  · rintro rfl; rfl
  · intro k
    have hd := h.hd
    cases t with
    | mk kk l a =>
      obtain rfl : kk = 2 := k
      unfold THd at hd
      simp [Ty.kind, Ty.labels, Ty.args] at hd
      obtain ⟨rfl, rfl⟩ := hd
      rfl
theorem hasB_eq3 (s ctx : List Decl) (e : Tm) : (decide (TmF e) && (decide (BsT false e) && ((tyO s (msz e) ctx e).isSome && decide ((tyO s (msz e) ctx e).getD ty0 = tBool)))) = hasB s ctx e 2 := by
  rw [← hasB_eq]
  cases h : tyO s (msz e) ctx e with
  | none => rfl
  | some u =>
    have : decide (u = tBool) = decide (u.kind = 2) := decide_eq_decide.2 (tBool_iff (okT_some h).2)
    show (decide (TmF e) && (decide (BsT false e) && (true && decide (u = tBool)))) = (decide (TmF e) && (decide (BsT false e) && (true && decide (u.kind = 2))))
    rw [this]
end Go.VC
namespace Go.VC.T
open Go Go.VC Go.Proofs Go.VC.F
set_option linter.unusedSimpArgs false
set_option linter.unusedVariables false
set_option linter.defProp false
set_option maxRecDepth 100000
set_option maxHeartbeats 2000000
def fc29A107 := (And.intro (And.intro (And.intro (And.intro (And.intro sz4 ag4) (And.intro zv4 (And.intro un4 sz39))) (And.intro (And.intro ag39 zv39) (And.intro fl39_0 (And.intro pl39 sz43)))) (And.intro (And.intro (And.intro ag43 zv43) (And.intro fl43_0 (And.intro fl43_1 fl43_2))) (And.intro (And.intro pl43 (And.intro sz46 ag46)) (And.intro zv46 (And.intro fl46_0 fl46_1))))) (And.intro (And.intro (And.intro (And.intro fl46_2 fl46_3) (And.intro fl46_4 (And.intro fl46_5 pl46))) (And.intro (And.intro sz70 (And.intro ag70 zv70)) (And.intro sb70 (And.intro un70 el70)))) (And.intro (And.intro (And.intro ap70 okf65) (And.intro okf66 (And.intro okf67 okf68))) (And.intro (And.intro sz37 (And.intro sz3 sz25)) (And.intro sz41 (And.intro sz9 sz44))))))
theorem sHas_of (s ctx : List Decl) (e : Tm) (he : okTm (2^20) e) (hz : zTm e ≤ 2^40) (w : Ty) (hw : okTy (2^20) w) (t : Ty) (ht : okTy (2^20) t) (b : Bool) (H : TmF e → FnP Tryz.prog 67 [agT (eSch s), slT eDecl ctx, agT (eTm e)] (.tp [agT (eTy t), bT b])) : FnS Tryz.prog 29 [] [agT (eSch s), slT eDecl ctx, agT (eTm e), agT (eTy w)] [] (bT (decide (TmF e) && (decide (BsT false e) && (b && decide (t = w))))) := by
  refine FnS.go [0, 1, 2, 3, 4, 6, 7, 8, 9, 10, 17] [] Tryz.func29 rfl (fun kt kz => ?_)
  have fcx := fc29A107
  simp only [Tryz.f29]
  refine Run ((And.intro @eSch_eta (And.intro @eTm_eta @eTy_eta))) ?_; repeat' (first | (with_reducible exact True.intro) | (with_reducible refine Lf.mk ?_ ?_) | (with_reducible intro hb))
  refine Cal ((And.intro @eTm_eta @eTy_eta)) (l7Form_ok e he hz) ?_
  by_cases hF : TmF e
  · have gF := eq_true hF
    refine Run ((And.intro (And.intro @eSch_eta @eTm_eta) (And.intro @eTy_eta @gF))) ?_; repeat' (first | (with_reducible exact True.intro) | (with_reducible refine Lf.mk ?_ ?_) | (with_reducible intro hb))
    refine Cal ((And.intro @eTm_eta @eTy_eta)) (specBase_ok e he hF) ?_
    by_cases hB : BsT false e
    · have gB := eq_true hB
      refine Run ((And.intro (And.intro @eSch_eta @eTm_eta) (And.intro @eTy_eta (And.intro @gF @gB)))) ?_; repeat' (first | (with_reducible exact True.intro) | (with_reducible refine Lf.mk ?_ ?_) | (with_reducible intro hb))
      refine CalI ((And.intro @eSch_eta (And.intro @eTm_eta @eTy_eta))) (H hF) ?_
      refine Run ((And.intro (And.intro @eSch_eta @eTm_eta) (And.intro @eTy_eta (And.intro @gF @gB)))) ?_; repeat' (first | (with_reducible exact True.intro) | (with_reducible refine Lf.mk ?_ ?_) | (with_reducible intro hb))
      cases b with
      | false =>
        refine Run ((And.intro (And.intro @eSch_eta @eTm_eta) (And.intro @eTy_eta (And.intro @gF @gB)))) ?_; repeat' (first | (with_reducible exact True.intro) | (with_reducible refine Lf.mk ?_ ?_) | (with_reducible intro hb))
        first | refine ⟨rfl, rfl, ?_⟩ | refine ⟨rfl, ?_⟩
        refine Run ((And.intro (And.intro @eSch_eta @eTm_eta) (And.intro @eTy_eta (And.intro @gF @gB)))) ?_; repeat' (first | (with_reducible exact True.intro) | (with_reducible refine Lf.mk ?_ ?_) | (with_reducible intro hb))
      | true =>
        refine Run ((And.intro (And.intro @eSch_eta @eTm_eta) (And.intro @eTy_eta (And.intro @gF @gB)))) ?_; repeat' (first | (with_reducible exact True.intro) | (with_reducible refine Lf.mk ?_ ?_) | (with_reducible intro hb))
        first | refine ⟨rfl, rfl, ?_⟩ | refine ⟨rfl, ?_⟩
        refine Run ((And.intro (And.intro @eSch_eta @eTm_eta) (And.intro @eTy_eta (And.intro @gF @gB)))) ?_; repeat' (first | (with_reducible exact True.intro) | (with_reducible refine Lf.mk ?_ ?_) | (with_reducible intro hb))
        refine Cal (@eTy_eta) (specEqTy_ok t w ht hw) ?_
        refine Run ((And.intro (And.intro @eSch_eta @eTm_eta) (And.intro @eTy_eta (And.intro @gF @gB)))) ?_; repeat' (first | (with_reducible exact True.intro) | (with_reducible refine Lf.mk ?_ ?_) | (with_reducible intro hb))
    · have gB := eq_false hB
      refine Run ((And.intro (And.intro @eSch_eta @eTm_eta) (And.intro @eTy_eta (And.intro @gF @gB)))) ?_; repeat' (first | (with_reducible exact True.intro) | (with_reducible refine Lf.mk ?_ ?_) | (with_reducible intro hb))
  · have gF := eq_false hF
    refine Run ((And.intro (And.intro @eSch_eta @eTm_eta) (And.intro @eTy_eta @gF))) ?_; repeat' (first | (with_reducible exact True.intro) | (with_reducible refine Lf.mk ?_ ?_) | (with_reducible intro hb))

theorem sHas_ok (s : List Decl) (hs : okSch (2^20) s) (hrow : ∀ d ∈ s, TyOk d.row) (ctx : List Decl) (hc : CtxOk ctx) (e : Tm) (he : okTm (2^20) e) (hl : ctx.length + zTm e ≤ 2^20 + 2) : FnP Tryz.prog 29 [agT (eSch s), slT eDecl ctx, agT (eTm e), agT (eTy tBool)] (bT (hasB s ctx e 2)) := by
  rw [← hasB_eq3]
  exact sHas_of s ctx e he (by omega) tBool bnd_bool.1 _ tyO_ok _ fun hF => sof_all s hs hrow (msz e) e (Nat.le_refl _) hF he ctx hc hl
theorem implHas_ok (s : List Decl) (hs : okSch (2^20) s) (hrow : ∀ d ∈ s, TyOk d.row) (ctx : List Decl) (hc : CtxOk ctx) (e : Tm) (he : okTm (2^20) e) (hl : ctx.length + zTm e ≤ 2^30) (k : Int) (r : List IV) : FnP Tryz.prog 36 [agT (eSch s), slT eDecl ctx, .c (.im (.pt (eTm e ++ r))), iT k] (bT (hasB s ctx e k)) := by
  by_cases hF : TmF e
  · obtain ⟨t', ht', hte⟩ := of_all s hs hrow (msz e) e (Nat.le_refl _) hF he ctx hc (by have := msz_le e; omega)
    rw [← hasB_eq2 s ctx e t' _ rfl (fun u hu => hte u hu) k]
    exact hasBase_of s ctx e he (by omega) k r t' _ fun _ => ht' r
  · have h2 := hasBase_of s ctx e he (by omega) k r ty0 false fun h => absurd h hF
    rw [decide_eq_false hF, Bool.false_and] at h2
    rwa [hasB_no fun h => hF h.1]
end Go.VC.T
/- Terms without questions: positive queries. -/
namespace Go.VC
open Go
mutual
/-- Does a term ask about a bag? -/
def askT : Tm → Bool
  | .mk k _ _ _ _ a => askL a || (decide (k = 15) || decide (k = 16))
def askL : List Tm → Bool
  | [] => false
  | t :: r => askT t || askL r
end
theorem askL_any : ∀ (l : List Tm), askL l = l.any askT
  | [] => by rw [askL]; rfl
  | t :: r => by rw [askL, askL_any r, List.any_cons]
theorem askT_eta (t : Tm) : askT t = (t.args.any askT || (decide (t.kind = 15) || decide (t.kind = 16))) := by
  cases t with
  | mk k s n t l a => rw [askT, askL_any]; rfl
end Go.VC
namespace Go.VC.T
open Go Go.VC Go.Proofs Go.VC.F
set_option linter.unusedSimpArgs false
set_option linter.unusedVariables false
set_option linter.defProp false
set_option maxRecDepth 100000
set_option maxHeartbeats 2000000
def fc26A20 := (And.intro (And.intro (And.intro (And.intro sz3 (And.intro ag3 zv3)) (And.intro (And.intro un3 sz4) (And.intro ag4 zv4))) (And.intro (And.intro un4 (And.intro sz44 ag44)) (And.intro (And.intro zv44 sb44) (And.intro un44 el44)))) (And.intro (And.intro (And.intro ap44 (And.intro sz46 ag46)) (And.intro (And.intro zv46 fl46_0) (And.intro fl46_1 fl46_2))) (And.intro (And.intro (And.intro fl46_3 fl46_4) (And.intro fl46_5 pl46)) (And.intro (And.intro okf26 sz9) (And.intro sz43 sz25)))))
theorem specAsks_of (t : Tm) (ht : okTm (2^20) t) (H : ∀ u ∈ t.args, FnP Tryz.prog 26 [agT (eTm u)] (bT (askT u))) : FnS Tryz.prog 26 [] [agT (eTm t)] [] (bT (askT t)) := by
  refine FnS.go [0, 1, 2, 3, 8, 16] [] Tryz.func26 rfl (fun kt kz => ?_)
  have fcx := fc26A20
  simp only [Tryz.f26]
  have ho := okTm_iff.1 ht
  have hl := ho.2.2.2.2.2.1
  refine Run ((And.intro @eTm_eta @eTy_eta)) ?_; repeat' (first | (with_reducible exact True.intro) | (with_reducible refine Lf.mk ?_ ?_) | (with_reducible intro hb))
  refine Trn (α := Nat) [2, 3, 4, 5, 6, 7, 8, 9, 10, 11, 12, 13, 14, 15, 16] (fun i => [(3, iT i)]) (fun i => [(2, .box 46 ((eTm t).map .im))]) (fun i => i ≤ t.args.length ∧ (t.args.take i).any askT = false) (fun i => t.args.length - i) (0) (⟨Nat.zero_le _, rfl⟩) ((And.intro @eTm_eta @eTy_eta)) ?_; intro lx hI; obtain i := lx; (try simp only [List.nil_append, List.cons_append] at hI ⊢)
  by_cases hlt : lx < t.args.length
  · refine Run ((And.intro @eTm_eta (And.intro @eTy_eta @hlt))) ?_; repeat' (first | (with_reducible exact True.intro) | (with_reducible refine Lf.mk ?_ ?_) | (with_reducible intro hb))
    refine Cal ((And.intro @eTm_eta @eTy_eta)) (H _ (List.getElem_mem hlt)) ?_
    refine Run ((And.intro @eTm_eta @eTy_eta)) ?_; repeat' (first | (with_reducible exact True.intro) | (with_reducible refine Lf.mk ?_ ?_) | (with_reducible intro hb))
    · rw [askT_eta, any_at hlt hb]; rfl
    · exact Nxt ((And.intro @eTm_eta @eTy_eta)) (lx + 1) (⟨by omega, any_take hlt hI.2 hb⟩) (by first | omega | (simp; omega))
  · have ha := any_all (by omega) hI.2
    by_cases h15 : t.kind = 15
    · refine Run ((And.intro (And.intro @eTm_eta @eTy_eta) (And.intro @hlt @h15))) ?_; repeat' (first | (with_reducible exact True.intro) | (with_reducible refine Lf.mk ?_ ?_) | (with_reducible intro hb))
      rw [askT_eta, h15]; simp
    · refine Run ((And.intro (And.intro @eTm_eta @eTy_eta) (And.intro @hlt @h15))) ?_; repeat' (first | (with_reducible exact True.intro) | (with_reducible refine Lf.mk ?_ ?_) | (with_reducible intro hb))
      rw [askT_eta, ha]; simp [h15]

theorem specAsks_ok (t : Tm) (ht : okTm (2^20) t) : FnP Tryz.prog 26 [agT (eTm t)] (bT (askT t)) := specAsks_of t ht fun u hu => specAsks_ok u ((okTm_iff.1 ht).2.2.2.2.2.2 u hu)
termination_by SizeOf.sizeOf t
decreasing_by exact Tm.mem hu
def fc37A20 := (And.intro (And.intro (And.intro (And.intro (And.intro sz3 ag3) (And.intro zv3 un3)) (And.intro (And.intro sz4 ag4) (And.intro zv4 un4))) (And.intro (And.intro (And.intro sz44 ag44) (And.intro zv44 sb44)) (And.intro (And.intro un44 el44) (And.intro ap44 sz46)))) (And.intro (And.intro (And.intro (And.intro ag46 zv46) (And.intro fl46_0 fl46_1)) (And.intro (And.intro fl46_2 fl46_3) (And.intro fl46_4 fl46_5))) (And.intro (And.intro (And.intro pl46 sz77) (And.intro ag77 zv77)) (And.intro (And.intro un77 okf37) (And.intro sz9 (And.intro sz43 sz25))))))
theorem implPos_of (t : Tm) (ht : okTm (2^20) t) (H : ∀ u ∈ t.args, ∀ r : List IV, FnP Tryz.prog 37 [.c (.im (.pt (eTm u ++ r)))] (bT (!askT u))) (r : List IV) : FnS Tryz.prog 37 [] [.c (.im (.pt (eTm t ++ r)))] [] (bT (!askT t)) := by
  refine FnS.go [0, 2, 3, 15, 20, 21, 22, 31] [] Tryz.func37 rfl (fun kt kz => ?_)
  have fcx := fc37A20
  simp only [Tryz.f37]
  have ho := okTm_iff.1 ht
  have hl := ho.2.2.2.2.2.1
  by_cases h15 : t.kind = 15
  · refine Run ((And.intro @eTm_eta (And.intro @eTy_eta @h15))) ?_; repeat' (first | (with_reducible exact True.intro) | (with_reducible refine Lf.mk ?_ ?_) | (with_reducible intro hb))
    rw [askT_eta, h15]; simp
  · by_cases h16 : t.kind = 16
    · refine Run ((And.intro (And.intro @eTm_eta @eTy_eta) (And.intro @h15 @h16))) ?_; repeat' (first | (with_reducible exact True.intro) | (with_reducible refine Lf.mk ?_ ?_) | (with_reducible intro hb))
      rw [askT_eta, h16]; simp
    · refine Run ((And.intro (And.intro @eTm_eta @eTy_eta) (And.intro @h15 @h16))) ?_; repeat' (first | (with_reducible exact True.intro) | (with_reducible refine Lf.mk ?_ ?_) | (with_reducible intro hb))
      refine Trn (α := Nat) [2, 3, 21, 22, 23, 24, 25, 26, 27, 28, 29, 30, 31, 32] (fun i => [(21, iT i)]) (fun i => []) (fun i => i ≤ t.args.length ∧ (t.args.take i).any askT = false) (fun i => t.args.length - i) (0) (⟨Nat.zero_le _, rfl⟩) ((And.intro @eTm_eta @eTy_eta)) ?_; intro lx hI; obtain i := lx; (try simp only [List.nil_append, List.cons_append] at hI ⊢)
      by_cases hlt : lx < t.args.length
      · refine Run ((And.intro @eTm_eta (And.intro @eTy_eta @hlt))) ?_; repeat' (first | (with_reducible exact True.intro) | (with_reducible refine Lf.mk ?_ ?_) | (with_reducible intro hb))
        refine Cal ((And.intro @eTm_eta @eTy_eta)) (H _ (List.getElem_mem hlt) _) ?_
        refine Run ((And.intro @eTm_eta @eTy_eta)) ?_; repeat' (first | (with_reducible exact True.intro) | (with_reducible refine Lf.mk ?_ ?_) | (with_reducible intro hb))
        · rw [askT_eta, any_at hlt (by simpa using hb)]; rfl
        · exact Nxt ((And.intro @eTm_eta @eTy_eta)) (lx + 1) (⟨by omega, any_take hlt hI.2 (by simpa using hb)⟩) (by first | omega | (simp; omega))
      · have ha := any_all (by omega) hI.2
        refine Run ((And.intro @eTm_eta (And.intro @eTy_eta @hlt))) ?_; repeat' (first | (with_reducible exact True.intro) | (with_reducible refine Lf.mk ?_ ?_) | (with_reducible intro hb))
        rw [askT_eta, ha]; simp [h15, h16]

theorem implPos_ok (t : Tm) (ht : okTm (2^20) t) (r : List IV) : FnP Tryz.prog 37 [.c (.im (.pt (eTm t ++ r)))] (bT (!askT t)) := implPos_of t ht (fun u hu r => implPos_ok u ((okTm_iff.1 ht).2.2.2.2.2.2 u hu) r) r
termination_by SizeOf.sizeOf t
decreasing_by exact Tm.mem hu
end Go.VC.T
/- Views: what is asked of them; the program's side. -/
namespace Go.VC
open Go
def vRow (row : Ty) : List Decl := [⟨⟨#[114]⟩, row⟩]
def ViewIn (s : List Decl) (v : Vw) (row : Ty) : Prop := hasB s (vRow row) v.cond 2 = true ∧ askT v.cond = false ∧ v.cols.length ≠ 0 ∧ AscS v.cols ∧ (v.cols.any fun c => !(row.labels.any fun x => decide (x = c))) = false ∧ (v.cols.any fun x => decide (x = v.key)) = true ∧ ((fieldT row v.key).getD ty0).kind = 1
def ViewOk (s : List Decl) (v : Vw) : Prop := SchOk s ∧ ∃ row, rowT s v.table = some row ∧ ViewIn s v row
noncomputable instance (s : List Decl) (v : Vw) : Decidable (ViewOk s v) := Classical.propDecidable _
noncomputable instance (s : List Decl) (v : Vw) (row : Ty) : Decidable (ViewIn s v row) := Classical.propDecidable _
theorem view_a {s : List Decl} {v : Vw} (h : rowT s v.table = none) : decide (ViewOk s v) = false := decide_eq_false fun ⟨_, r, hr, _⟩ => by rw [h] at hr; cases hr
theorem view_b {s : List Decl} {v : Vw} (h : ¬ SchOk s) : decide (ViewOk s v) = false := decide_eq_false fun ⟨h1, _⟩ => h h1
theorem view_c {s : List Decl} {v : Vw} {row : Ty} (h : SchOk s) (hr : rowT s v.table = some row) : decide (ViewOk s v) = decide (ViewIn s v row) := decide_eq_decide.2 ⟨fun ⟨_, r, h1, h2⟩ => by rw [hr] at h1; cases h1; exact h2, fun h2 => ⟨h, row, hr, h2⟩⟩
theorem vRow_len (row : Ty) : (vRow row).length = 1 := rfl
theorem vRow_eta (row : Ty) : (vRow row).flatMap eDecl = .sc (.string ⟨#[114]⟩) :: eTy row := by
  show [_].flatMap eDecl = _
  rw [flat_one]; rfl
theorem sch_row {s : List Decl} (h : SchOk s) : ∀ d ∈ s, TyOk d.row := fun d hd => (h.1 d hd).2.1
theorem row_ok {s : List Decl} {name : ByteArray} {row : Ty} (h : SchOk s) (hr : rowT s name = some row) : RowOk' row := by
  obtain ⟨d, hd, rfl⟩ := rowT_mem hr
  exact (h.1 d hd).2
theorem vctx_ok {row : Ty} (h : TyOk row) : CtxOk (vRow row) := fun d hd => by
  obtain rfl := List.mem_singleton.1 hd; exact h
/-- The key's place in a row. -/
theorem key_at {row : Ty} {cols : List ByteArray} {key : ByteArray} (h : RowOk' row) (h1 : (cols.any fun c => !(row.labels.any fun x => decide (x = c))) = false) (h2 : (cols.any fun x => decide (x = key)) = true) :
    ∃ j : Nat, idxI (fun x => decide (x = key)) row.labels = j ∧ ∃ h : j < row.args.length, fieldT row key = some row.args[j] := by
  obtain ⟨c, hc, he⟩ := List.any_eq_true.1 h2
  obtain rfl := of_decide_eq_true he
  have h3 := List.any_eq_false.1 h1 c hc
  have h4 : (row.labels.any fun x => decide (x = c)) = true := by
    cases h : row.labels.any fun x => decide (x = c) with
    | true => rfl
    | false => rw [h] at h3; exact absurd rfl h3
  refine fieldT_at ⟨h.1, h.2.1, ?_⟩
  have := idx_ge (p := fun x => decide (x = c)) (l := row.labels)
  rw [h4] at this
  exact of_decide_eq_true this
end Go.VC
namespace Go.VC.T
open Go Go.VC Go.Proofs Go.VC.F
set_option linter.unusedSimpArgs false
set_option linter.unusedVariables false
set_option linter.defProp false
set_option maxRecDepth 100000
set_option maxHeartbeats 2000000
def fc40A108 := (And.intro (And.intro (And.intro (And.intro sz4 (And.intro ag4 zv4)) (And.intro un4 (And.intro sz9 ag9))) (And.intro (And.intro zv9 (And.intro un9 sz25)) (And.intro ag25 (And.intro zv25 sb25)))) (And.intro (And.intro (And.intro un25 (And.intro el25 ap25)) (And.intro sz43 (And.intro ag43 zv43))) (And.intro (And.intro fl43_0 (And.intro fl43_1 fl43_2)) (And.intro (And.intro pl43 okf41) (And.intro sz3 sz41)))))
theorem implView1_ok (row : Ty) (hl : row.labels.length ≤ 2^48) (c : ByteArray) : FnS Tryz.prog 40 [] [sT c, .c (.im (.pt (eTy row)))] [] (bT (!(row.labels.any fun x => decide (x = c)))) := by
  refine FnS.go [0, 1, 3] [] Tryz.func40 rfl (fun kt kz => ?_)
  have fcx := fc40A108
  simp only [Tryz.f40]
  refine Run (@eTy_eta) ?_; repeat' (first | (with_reducible exact True.intro) | (with_reducible refine Lf.mk ?_ ?_) | (with_reducible intro hb))
  refine Cal (cast_succ) (slHasS_ok row.labels c hl) ?_
  refine Run (@eTy_eta) ?_; repeat' (first | (with_reducible exact True.intro) | (with_reducible refine Lf.mk ?_ ?_) | (with_reducible intro hb))
def fc10A108 := (And.intro (And.intro (And.intro (And.intro (And.intro (And.intro sz3 ag3) (And.intro zv3 un3)) (And.intro (And.intro sz4 ag4) (And.intro zv4 (And.intro un4 sz9)))) (And.intro (And.intro (And.intro ag9 zv9) (And.intro un9 (And.intro sz25 ag25))) (And.intro (And.intro zv25 sb25) (And.intro un25 (And.intro el25 ap25))))) (And.intro (And.intro (And.intro (And.intro sz39 ag39) (And.intro zv39 fl39_0)) (And.intro (And.intro pl39 sz41) (And.intro ag41 (And.intro zv41 sb41)))) (And.intro (And.intro (And.intro un41 el41) (And.intro ap41 (And.intro sz43 ag43))) (And.intro (And.intro zv43 fl43_0) (And.intro fl43_1 (And.intro fl43_2 pl43)))))) (And.intro (And.intro (And.intro (And.intro (And.intro sz48 ag48) (And.intro zv48 fl48_0)) (And.intro (And.intro fl48_1 fl48_2) (And.intro fl48_3 (And.intro pl48 sz69)))) (And.intro (And.intro (And.intro ag69 zv69) (And.intro fl69_0 (And.intro fl69_1 pl69))) (And.intro (And.intro sz70 ag70) (And.intro zv70 (And.intro sb70 un70))))) (And.intro (And.intro (And.intro (And.intro el70 ap70) (And.intro sz77 (And.intro ag77 zv77))) (And.intro (And.intro un77 sz81) (And.intro ag81 (And.intro zv81 okf34)))) (And.intro (And.intro (And.intro okf35 okf36) (And.intro okf37 (And.intro okf38 okf39))) (And.intro (And.intro okf40 okf41) (And.intro okf42 (And.intro sz37 sz46)))))))
theorem implView_a (s : List Decl) (hs : okSch (2^20) s) (hz : zSch s ≤ 2^20) (v : Vw) (hr : rowT s v.table = none) : FnS Tryz.prog 10 [] [agT (eSch s), agT (eVw v)] [] (bT false) := by
  refine FnS.go [0, 1, 2, 3, 4, 5, 6, 34, 50] [] Tryz.func10 rfl (fun kt kz => ?_)
  have fcx := fc10A108
  simp only [Tryz.f10]
  have hh := implRowT_ok s hs v.table
  rw [hr] at hh
  have hh : FnP Tryz.prog 34 [agT (eSch s), sT v.table] (.tp [agT (eTy ty0), bT false]) := hh
  refine Run ((And.intro @eSch_eta (And.intro @eVw_eta @eTy_eta))) ?_; repeat' (first | (with_reducible exact True.intro) | (with_reducible refine Lf.mk ?_ ?_) | (with_reducible intro hb))
  refine CalI ((And.intro @eSch_eta @eTy_eta)) (hh) ?_
  refine Run ((And.intro @eSch_eta (And.intro @eVw_eta @eTy_eta))) ?_; repeat' (first | (with_reducible exact True.intro) | (with_reducible refine Lf.mk ?_ ?_) | (with_reducible intro hb))
  refine ⟨rfl, rfl, ?_⟩
  refine Run ((And.intro @eSch_eta (And.intro @eVw_eta @eTy_eta))) ?_; repeat' (first | (with_reducible exact True.intro) | (with_reducible refine Lf.mk ?_ ?_) | (with_reducible intro hb))
  refine Cal ((And.intro @eSch_eta @eTy_eta)) (implSch_ok s hs hz) ?_
  by_cases hS : SchOk s
  · have gS := eq_true hS
    refine Run ((And.intro (And.intro @eSch_eta @eVw_eta) (And.intro @eTy_eta @gS))) ?_; repeat' (first | (with_reducible exact True.intro) | (with_reducible refine Lf.mk ?_ ?_) | (with_reducible intro hb))
  · have gS := eq_false hS
    refine Run ((And.intro (And.intro @eSch_eta @eVw_eta) (And.intro @eTy_eta @gS))) ?_; repeat' (first | (with_reducible exact True.intro) | (with_reducible refine Lf.mk ?_ ?_) | (with_reducible intro hb))
theorem implView_b (s : List Decl) (hs : okSch (2^20) s) (hz : zSch s ≤ 2^20) (v : Vw) (row : Ty) (hr : rowT s v.table = some row) (hS : ¬ SchOk s) : FnS Tryz.prog 10 [] [agT (eSch s), agT (eVw v)] [] (bT false) := by
  refine FnS.go [0, 1, 2, 3, 4, 5, 6, 34, 50] [] Tryz.func10 rfl (fun kt kz => ?_)
  have fcx := fc10A108
  simp only [Tryz.f10]
  have hh := implRowT_ok s hs v.table
  rw [hr] at hh
  have hh : FnP Tryz.prog 34 [agT (eSch s), sT v.table] (.tp [agT (eTy row), bT true]) := hh
  have gS := eq_false hS
  refine Run ((And.intro @eSch_eta (And.intro @eVw_eta @eTy_eta))) ?_; repeat' (first | (with_reducible exact True.intro) | (with_reducible refine Lf.mk ?_ ?_) | (with_reducible intro hb))
  refine CalI ((And.intro @eSch_eta @eTy_eta)) (hh) ?_
  refine Run ((And.intro @eSch_eta (And.intro @eVw_eta @eTy_eta))) ?_; repeat' (first | (with_reducible exact True.intro) | (with_reducible refine Lf.mk ?_ ?_) | (with_reducible intro hb))
  refine ⟨rfl, rfl, ?_⟩
  refine Run ((And.intro @eSch_eta (And.intro @eVw_eta @eTy_eta))) ?_; repeat' (first | (with_reducible exact True.intro) | (with_reducible refine Lf.mk ?_ ?_) | (with_reducible intro hb))
  refine Cal ((And.intro @eSch_eta @eTy_eta)) (implSch_ok s hs hz) ?_
  refine Run ((And.intro (And.intro @eSch_eta @eVw_eta) (And.intro @eTy_eta @gS))) ?_; repeat' (first | (with_reducible exact True.intro) | (with_reducible refine Lf.mk ?_ ?_) | (with_reducible intro hb))
theorem implView_c (s : List Decl) (hs : okSch (2^20) s) (hz : zSch s ≤ 2^20) (v : Vw) (hv : okVw (2^20) v) (hzv : zVw v ≤ 2^20) (row : Ty) (hr : rowT s v.table = some row) (hS : SchOk s) : FnS Tryz.prog 10 [] [agT (eSch s), agT (eVw v)] [] (bT (decide (ViewIn s v row))) := by
  refine FnS.go [0, 1, 2, 3, 4, 5, 6, 34, 50] [] Tryz.func10 rfl (fun kt kz => ?_)
  have fcx := fc10A108
  simp only [Tryz.f10]
  have hh := implRowT_ok s hs v.table
  rw [hr] at hh
  have hh : FnP Tryz.prog 34 [agT (eSch s), sT v.table] (.tp [agT (eTy row), bT true]) := hh
  have gS := eq_true hS
  have hR := row_ok hS hr
  obtain ⟨hvt, hvc, hvl, hvk⟩ := okVw_iff.1 hv
  have hzc : zTm v.cond ≤ 2^20 := by have := zVw_eta v; omega
  have hno : ¬ ViewIn s v row → decide (ViewIn s v row) = false := decide_eq_false
  have HB := implHas_ok s hs (sch_row hS) (vRow row) (vctx_ok hR.1) v.cond hvc (by show 1 + _ ≤ _; omega) 2
  have hl20 : v.cols.length ≤ 2^20 := hvl.1
  have hrl : row.labels.length ≤ 2^48 := by have := hR.1.ok; have := (okTy_iff.1 this).2.1.1; omega
  refine Run ((And.intro @eSch_eta (And.intro @eVw_eta @eTy_eta))) ?_; repeat' (first | (with_reducible exact True.intro) | (with_reducible refine Lf.mk ?_ ?_) | (with_reducible intro hb))
  refine CalI ((And.intro @eSch_eta @eTy_eta)) (hh) ?_
  refine Run ((And.intro @eSch_eta (And.intro @eVw_eta @eTy_eta))) ?_; repeat' (first | (with_reducible exact True.intro) | (with_reducible refine Lf.mk ?_ ?_) | (with_reducible intro hb))
  refine ⟨rfl, rfl, ?_⟩
  refine Run ((And.intro @eSch_eta (And.intro @eVw_eta @eTy_eta))) ?_; repeat' (first | (with_reducible exact True.intro) | (with_reducible refine Lf.mk ?_ ?_) | (with_reducible intro hb))
  refine Cal ((And.intro @eSch_eta @eTy_eta)) (implSch_ok s hs hz) ?_
  refine Run ((And.intro (And.intro @eSch_eta @eVw_eta) (And.intro @eTy_eta @gS))) ?_; repeat' (first | (with_reducible exact True.intro) | (with_reducible refine Lf.mk ?_ ?_) | (with_reducible intro hb))
  refine Cal ((And.intro (And.intro @eSch_eta @eTm_eta) (And.intro @eTy_eta (And.intro @vRow_len @vRow_eta)))) (HB [slI eS v.cols, .sc (.string v.key)]) ?_
  cases hB : hasB s (vRow row) v.cond 2 with
  | false =>
    have e := hno fun h => by have h' := h.1; rw [hB] at h'; cases h'
    refine Run ((And.intro (And.intro @eSch_eta @eVw_eta) (And.intro @eTy_eta @e))) ?_; repeat' (first | (with_reducible exact True.intro) | (with_reducible refine Lf.mk ?_ ?_) | (with_reducible intro hb))
  | true =>
    refine Run ((And.intro (And.intro @eSch_eta @eVw_eta) (And.intro @eTm_eta @eTy_eta))) ?_; repeat' (first | (with_reducible exact True.intro) | (with_reducible refine Lf.mk ?_ ?_) | (with_reducible intro hb))
    refine Cal ((And.intro @eTm_eta @eTy_eta)) (implPos_ok v.cond hvc [slI eS v.cols, .sc (.string v.key)]) ?_
    cases hA : askT v.cond with
    | true =>
      have e := hno fun h => by have h' := h.2.1; rw [hA] at h'; cases h'
      refine Run ((And.intro (And.intro @eSch_eta @eVw_eta) (And.intro @eTy_eta @e))) ?_; repeat' (first | (with_reducible exact True.intro) | (with_reducible refine Lf.mk ?_ ?_) | (with_reducible intro hb))
    | false =>
      by_cases h0 : v.cols.length = 0
      · have g0 : ((v.cols.length : Int) = 0) = True := eq_true (by omega)
        have e := hno fun h => h.2.2.1 h0
        refine Run ((And.intro (And.intro @eSch_eta @eVw_eta) (And.intro @eTy_eta (And.intro @g0 @e)))) ?_; repeat' (first | (with_reducible exact True.intro) | (with_reducible refine Lf.mk ?_ ?_) | (with_reducible intro hb))
      · have g0 : ((v.cols.length : Int) = 0) = False := eq_false (by omega)
        refine Run ((And.intro (And.intro @eSch_eta @eVw_eta) (And.intro @eTy_eta @g0))) ?_; repeat' (first | (with_reducible exact True.intro) | (with_reducible refine Lf.mk ?_ ?_) | (with_reducible intro hb))
        refine Cal (@eTy_eta) (implAsc_ok v.cols (by omega)) ?_
        by_cases hC : AscS v.cols
        · have gC := eq_true hC
          refine Run ((And.intro (And.intro @eSch_eta @eVw_eta) (And.intro @eTy_eta @gC))) ?_; repeat' (first | (with_reducible exact True.intro) | (with_reducible refine Lf.mk ?_ ?_) | (with_reducible intro hb))
          refine Cal (@eTy_eta) (slHasFS_ok 40 (by decide +kernel) (.pt (eTy row)) (fun c => !(row.labels.any fun x => decide (x = c))) v.cols (by omega) (fun c _ => implView1_ok row hrl c)) ?_
          cases hM : v.cols.any fun c => !(row.labels.any fun x => decide (x = c)) with
          | true =>
            have e := hno fun h => by have h' := h.2.2.2.2.1; rw [hM] at h'; cases h'
            refine Run ((And.intro (And.intro @eSch_eta @eVw_eta) (And.intro @eTy_eta (And.intro @hM @e)))) ?_; repeat' (first | (with_reducible exact True.intro) | (with_reducible refine Lf.mk ?_ ?_) | (with_reducible intro hb))
          | false =>
            refine Run ((And.intro (And.intro @eSch_eta @eVw_eta) (And.intro @eTy_eta @hM))) ?_; repeat' (first | (with_reducible exact True.intro) | (with_reducible refine Lf.mk ?_ ?_) | (with_reducible intro hb))
            cases hK : v.cols.any fun x => decide (x = v.key) with
            | false =>
              have e := hno fun h => by have h' := h.2.2.2.2.2.1; rw [hK] at h'; cases h'
              refine Cal (@eTy_eta) (slHasS_ok v.cols v.key (by omega)) ?_
              refine Run ((And.intro (And.intro @eSch_eta @eVw_eta) (And.intro @eTy_eta (And.intro @hK @e)))) ?_; repeat' (first | (with_reducible exact True.intro) | (with_reducible refine Lf.mk ?_ ?_) | (with_reducible intro hb))
            | true =>
              obtain ⟨j, ej, hj, ef⟩ := key_at hR hM hK
              have e : decide (row.args[j].kind = 1) = decide (ViewIn s v row) := decide_eq_decide.2 ⟨fun h => ⟨hB, hA, h0, hC, hM, hK, by rw [ef]; exact h⟩, fun h => by have := h.2.2.2.2.2.2; rw [ef] at this; exact this⟩
              refine Cal (@eTy_eta) (slHasS_ok v.cols v.key (by omega)) ?_
              refine Run ((And.intro (And.intro @eSch_eta @eVw_eta) (And.intro @eTy_eta @hK))) ?_; repeat' (first | (with_reducible exact True.intro) | (with_reducible refine Lf.mk ?_ ?_) | (with_reducible intro hb))
              refine Cal (@eTy_eta) (slIdxS_ok row.labels v.key hrl) ?_
              refine Run ((And.intro (And.intro @eSch_eta (And.intro @eVw_eta @eTy_eta)) (And.intro @ej (And.intro @hj @e)))) ?_; repeat' (first | (with_reducible exact True.intro) | (with_reducible refine Lf.mk ?_ ?_) | (with_reducible intro hb))
        · have gC := eq_false hC
          have e := hno fun h => hC h.2.2.2.1
          refine Run ((And.intro (And.intro @eSch_eta @eVw_eta) (And.intro @eTy_eta (And.intro @gC @e)))) ?_; repeat' (first | (with_reducible exact True.intro) | (with_reducible refine Lf.mk ?_ ?_) | (with_reducible intro hb))

theorem implView_ok (s : List Decl) (hs : okSch (2^20) s) (hz : zSch s ≤ 2^20) (v : Vw) (hv : okVw (2^20) v) (hzv : zVw v ≤ 2^20) : FnP Tryz.prog 10 [agT (eSch s), agT (eVw v)] (bT (decide (ViewOk s v))) := by
  cases hr : rowT s v.table with
  | none => rw [view_a hr]; exact implView_a s hs hz v hr
  | some row =>
    by_cases hS : SchOk s
    · rw [view_c hS hr]; exact implView_c s hs hz v hv hzv row hr hS
    · rw [view_b hS]; exact implView_b s hs hz v row hr hS
end Go.VC.T
/- Views: the reference's side. -/
namespace Go.VC.T
open Go Go.VC Go.Proofs Go.VC.F
set_option linter.unusedSimpArgs false
set_option linter.unusedVariables false
set_option linter.defProp false
set_option maxRecDepth 100000
set_option maxHeartbeats 2000000
def fc7A109 := (And.intro (And.intro (And.intro (And.intro (And.intro (And.intro sz3 ag3) (And.intro zv3 un3)) (And.intro (And.intro sz4 ag4) (And.intro zv4 (And.intro un4 sz9)))) (And.intro (And.intro (And.intro ag9 zv9) (And.intro un9 sz25)) (And.intro (And.intro ag25 zv25) (And.intro sb25 (And.intro un25 el25))))) (And.intro (And.intro (And.intro (And.intro ap25 sz39) (And.intro ag39 zv39)) (And.intro (And.intro fl39_0 pl39) (And.intro sz43 (And.intro ag43 zv43)))) (And.intro (And.intro (And.intro fl43_0 fl43_1) (And.intro fl43_2 pl43)) (And.intro (And.intro sz46 ag46) (And.intro zv46 (And.intro fl46_0 fl46_1)))))) (And.intro (And.intro (And.intro (And.intro (And.intro fl46_2 fl46_3) (And.intro fl46_4 fl46_5)) (And.intro (And.intro pl46 sz48) (And.intro ag48 (And.intro zv48 fl48_0)))) (And.intro (And.intro (And.intro fl48_1 fl48_2) (And.intro fl48_3 pl48)) (And.intro (And.intro sz69 ag69) (And.intro zv69 (And.intro fl69_0 fl69_1))))) (And.intro (And.intro (And.intro (And.intro pl69 sz70) (And.intro ag70 zv70)) (And.intro (And.intro sb70 un70) (And.intro el70 (And.intro ap70 okf23)))) (And.intro (And.intro (And.intro okf24 okf25) (And.intro okf26 (And.intro okf27 okf28))) (And.intro (And.intro okf29 okf30) (And.intro sz37 (And.intro sz41 sz44)))))))
theorem specView_a (s : List Decl) (hs : okSch (2^20) s) (v : Vw) (hr : rowT s v.table = none) : FnS Tryz.prog 7 [] [agT (eSch s), agT (eVw v)] [] (bT false) := by
  refine FnS.go [0, 1, 2, 3, 4, 5, 6, 7, 8, 10, 41, 46, 57] [] Tryz.func7 rfl (fun kt kz => ?_)
  have fcx := fc7A109
  simp only [Tryz.f7]
  have hh := specRowT_ok s hs v.table
  rw [hr] at hh
  have hh : FnP Tryz.prog 23 [agT (eSch s), sT v.table] (.tp [agT (eTy ty0), bT false]) := hh
  refine Run ((And.intro @eSch_eta (And.intro @eVw_eta @eTy_eta))) ?_; repeat' (first | (with_reducible exact True.intro) | (with_reducible refine Lf.mk ?_ ?_) | (with_reducible intro hb))
  refine CalI ((And.intro @eSch_eta @eTy_eta)) (hh) ?_
  refine Run ((And.intro @eSch_eta (And.intro @eVw_eta @eTy_eta))) ?_; repeat' (first | (with_reducible exact True.intro) | (with_reducible refine Lf.mk ?_ ?_) | (with_reducible intro hb))
  refine ⟨rfl, rfl, ?_⟩
  refine Run ((And.intro @eSch_eta (And.intro @eVw_eta @eTy_eta))) ?_; repeat' (first | (with_reducible exact True.intro) | (with_reducible refine Lf.mk ?_ ?_) | (with_reducible intro hb))
theorem specView_b (s : List Decl) (hs : okSch (2^20) s) (hz : zSch s ≤ 2^20) (v : Vw) (row : Ty) (hr : rowT s v.table = some row) (hS : ¬ SchOk s) : FnS Tryz.prog 7 [] [agT (eSch s), agT (eVw v)] [] (bT false) := by
  refine FnS.go [0, 1, 2, 3, 4, 5, 6, 7, 8, 10, 41, 46, 57] [] Tryz.func7 rfl (fun kt kz => ?_)
  have fcx := fc7A109
  simp only [Tryz.f7]
  have hh := specRowT_ok s hs v.table
  rw [hr] at hh
  have hh : FnP Tryz.prog 23 [agT (eSch s), sT v.table] (.tp [agT (eTy row), bT true]) := hh
  have gS := eq_false hS
  refine Run ((And.intro @eSch_eta (And.intro @eVw_eta @eTy_eta))) ?_; repeat' (first | (with_reducible exact True.intro) | (with_reducible refine Lf.mk ?_ ?_) | (with_reducible intro hb))
  refine CalI ((And.intro @eSch_eta @eTy_eta)) (hh) ?_
  refine Run ((And.intro @eSch_eta (And.intro @eVw_eta @eTy_eta))) ?_; repeat' (first | (with_reducible exact True.intro) | (with_reducible refine Lf.mk ?_ ?_) | (with_reducible intro hb))
  refine ⟨rfl, rfl, ?_⟩
  refine Run ((And.intro @eSch_eta (And.intro @eVw_eta @eTy_eta))) ?_; repeat' (first | (with_reducible exact True.intro) | (with_reducible refine Lf.mk ?_ ?_) | (with_reducible intro hb))
  refine Cal ((And.intro @eSch_eta @eTy_eta)) (specSch_ok s hs hz) ?_
  refine Run ((And.intro (And.intro @eSch_eta @eVw_eta) (And.intro @eTy_eta @gS))) ?_; repeat' (first | (with_reducible exact True.intro) | (with_reducible refine Lf.mk ?_ ?_) | (with_reducible intro hb))
theorem specView_c (s : List Decl) (hs : okSch (2^20) s) (hz : zSch s ≤ 2^20) (v : Vw) (hv : okVw (2^20) v) (hzv : zVw v ≤ 2^20) (row : Ty) (hr : rowT s v.table = some row) (hS : SchOk s) : FnS Tryz.prog 7 [] [agT (eSch s), agT (eVw v)] [] (bT (decide (ViewIn s v row))) := by
  refine FnS.go [0, 1, 2, 3, 4, 5, 6, 7, 8, 10, 41, 46, 57] [] Tryz.func7 rfl (fun kt kz => ?_)
  have fcx := fc7A109
  simp only [Tryz.f7]
  have hh := specRowT_ok s hs v.table
  rw [hr] at hh
  have hh : FnP Tryz.prog 23 [agT (eSch s), sT v.table] (.tp [agT (eTy row), bT true]) := hh
  have gS := eq_true hS
  have hR := row_ok hS hr
  obtain ⟨hvt, hvc, hvl, hvk⟩ := okVw_iff.1 hv
  have hzc : zTm v.cond ≤ 2^20 := by have := zVw_eta v; omega
  have hno : ¬ ViewIn s v row → decide (ViewIn s v row) = false := decide_eq_false
  have HB := sHas_ok s hs (sch_row hS) (vRow row) (vctx_ok hR.1) v.cond hvc (by show 1 + _ ≤ _; omega)
  have hl20 : v.cols.length ≤ 2^20 := hvl.1
  have hrl : row.labels.length ≤ 2^48 := by have := hR.1.ok; have := (okTy_iff.1 this).2.1.1; omega
  have HF := specField_ok row hR.1.ok (by have := hR.1.z; omega) v.key
  refine Run ((And.intro @eSch_eta (And.intro @eVw_eta @eTy_eta))) ?_; repeat' (first | (with_reducible exact True.intro) | (with_reducible refine Lf.mk ?_ ?_) | (with_reducible intro hb))
  refine CalI ((And.intro @eSch_eta @eTy_eta)) (hh) ?_
  refine Run ((And.intro @eSch_eta (And.intro @eVw_eta @eTy_eta))) ?_; repeat' (first | (with_reducible exact True.intro) | (with_reducible refine Lf.mk ?_ ?_) | (with_reducible intro hb))
  refine ⟨rfl, rfl, ?_⟩
  refine Run ((And.intro @eSch_eta (And.intro @eVw_eta @eTy_eta))) ?_; repeat' (first | (with_reducible exact True.intro) | (with_reducible refine Lf.mk ?_ ?_) | (with_reducible intro hb))
  refine Cal ((And.intro @eSch_eta @eTy_eta)) (specSch_ok s hs hz) ?_
  by_cases h0 : v.cols.length = 0
  · have g0 : ((v.cols.length : Int) = 0) = True := eq_true (by omega)
    have e := hno fun h => h.2.2.1 h0
    refine Run ((And.intro (And.intro @eSch_eta (And.intro @eVw_eta @eTy_eta)) (And.intro @gS (And.intro @g0 @e)))) ?_; repeat' (first | (with_reducible exact True.intro) | (with_reducible refine Lf.mk ?_ ?_) | (with_reducible intro hb))
  · have g0 : ((v.cols.length : Int) = 0) = False := eq_false (by omega)
    refine Run ((And.intro (And.intro @eSch_eta @eVw_eta) (And.intro @eTy_eta (And.intro @gS @g0)))) ?_; repeat' (first | (with_reducible exact True.intro) | (with_reducible refine Lf.mk ?_ ?_) | (with_reducible intro hb))
    refine Cal (@eTy_eta) (specAsc_ok v.cols (by omega)) ?_
    by_cases hC : AscS v.cols
    · have gC := eq_true hC
      refine Run ((And.intro (And.intro @eSch_eta @eVw_eta) (And.intro @eTm_eta (And.intro @eTy_eta @gC)))) ?_; repeat' (first | (with_reducible exact True.intro) | (with_reducible refine Lf.mk ?_ ?_) | (with_reducible intro hb))
      refine Cal ((And.intro @eTm_eta @eTy_eta)) (specAsks_ok v.cond hvc) ?_
      cases hA : askT v.cond with
      | true =>
        have e := hno fun h => by have h' := h.2.1; rw [hA] at h'; cases h'
        refine Run ((And.intro (And.intro @eSch_eta @eVw_eta) (And.intro @eTy_eta @e))) ?_; repeat' (first | (with_reducible exact True.intro) | (with_reducible refine Lf.mk ?_ ?_) | (with_reducible intro hb))
      | false =>
        refine Run ((And.intro @eSch_eta (And.intro @eVw_eta @eTy_eta))) ?_; repeat' (first | (with_reducible exact True.intro) | (with_reducible refine Lf.mk ?_ ?_) | (with_reducible intro hb))
        refine Trn (α := Nat) [4, 7, 42, 43, 44, 45, 46, 47, 48, 49, 50, 51, 52, 53, 54, 55, 56, 57] (fun i => [(7, iT i)]) (fun i => [(4, .box 39 ((eSch s).map .im)), (6, .box 48 ((eVw v).map .im)), (10, .box 43 ((eTy row).map .im))]) (fun i => i ≤ v.cols.length ∧ ((v.cols.take i).any fun c => !(row.labels.any fun x => decide (x = c))) = false) (fun i => v.cols.length - i) (0) (⟨Nat.zero_le _, rfl⟩) ((And.intro @eSch_eta (And.intro @eVw_eta @eTy_eta))) ?_; intro lx hI; obtain i := lx; (try simp only [List.nil_append, List.cons_append] at hI ⊢)
        by_cases hlt : lx < v.cols.length
        · refine Run ((And.intro (And.intro @eSch_eta @eVw_eta) (And.intro @eTy_eta (And.intro @hlt @eS.eq_1)))) ?_; repeat' (first | (with_reducible exact True.intro) | (with_reducible refine Lf.mk ?_ ?_) | (with_reducible intro hb))
          refine Cal (@eTy_eta) (indexOf_ok row.labels v.cols[lx] hrl) ?_
          cases hx : row.labels.any fun x => decide (x = v.cols[lx]) with
          | true =>
            have g1 : (idxI (fun x => decide (x = v.cols[lx])) row.labels < 0) = False := eq_false (by have := idx_ge (p := fun x => decide (x = v.cols[lx])) (l := row.labels); rw [hx] at this; have := of_decide_eq_true this; omega)
            refine Run ((And.intro (And.intro @eSch_eta @eVw_eta) (And.intro @eTy_eta @g1))) ?_; repeat' (first | (with_reducible exact True.intro) | (with_reducible refine Lf.mk ?_ ?_) | (with_reducible intro hb))
            exact Nxt ((And.intro @eSch_eta (And.intro @eVw_eta @eTy_eta))) (lx + 1) (⟨by omega, any_take hlt hI.2 (by rw [hx]; rfl)⟩) (by first | omega | (simp; omega))
          | false =>
            have g1 : (idxI (fun x => decide (x = v.cols[lx])) row.labels < 0) = True := eq_true (by have := idx_ge (p := fun x => decide (x = v.cols[lx])) (l := row.labels); rw [hx] at this; have := of_decide_eq_false this; omega)
            have e := hno fun h => by
              have := List.any_eq_false.1 h.2.2.2.2.1 _ (List.getElem_mem hlt)
              rw [hx] at this; exact this rfl
            refine Run ((And.intro (And.intro @eSch_eta @eVw_eta) (And.intro @eTy_eta (And.intro @g1 @e)))) ?_; repeat' (first | (with_reducible exact True.intro) | (with_reducible refine Lf.mk ?_ ?_) | (with_reducible intro hb))
        · have hM := any_all (by omega) hI.2
          refine Run ((And.intro (And.intro @eSch_eta @eVw_eta) (And.intro @eTy_eta @hlt))) ?_; repeat' (first | (with_reducible exact True.intro) | (with_reducible refine Lf.mk ?_ ?_) | (with_reducible intro hb))
          refine CalI (@eTy_eta) (HF) ?_
          refine Run ((And.intro @eSch_eta (And.intro @eVw_eta @eTy_eta))) ?_; repeat' (first | (with_reducible exact True.intro) | (with_reducible refine Lf.mk ?_ ?_) | (with_reducible intro hb))
          refine ⟨rfl, rfl, ?_⟩
          refine Run ((And.intro @eSch_eta (And.intro @eVw_eta @eTy_eta))) ?_; repeat' (first | (with_reducible exact True.intro) | (with_reducible refine Lf.mk ?_ ?_) | (with_reducible intro hb))
          refine Cal (@eTy_eta) (indexOf_ok v.cols v.key (by omega)) ?_
          cases hK : v.cols.any fun x => decide (x = v.key) with
          | false =>
            have g1 : (0 ≤ idxI (fun x => decide (x = v.key)) v.cols) = False := eq_false (by have := idx_ge (p := fun x => decide (x = v.key)) (l := v.cols); rw [hK] at this; exact of_decide_eq_false this)
            have e := hno fun h => by have h' := h.2.2.2.2.2.1; rw [hK] at h'; cases h'
            refine Run ((And.intro (And.intro @eSch_eta @eVw_eta) (And.intro @eTy_eta (And.intro @g1 @e)))) ?_; repeat' (first | (with_reducible exact True.intro) | (with_reducible refine Lf.mk ?_ ?_) | (with_reducible intro hb))
          | true =>
            have g1 : (0 ≤ idxI (fun x => decide (x = v.key)) v.cols) = True := eq_true (by have := idx_ge (p := fun x => decide (x = v.key)) (l := v.cols); rw [hK] at this; exact of_decide_eq_true this)
            by_cases hk : ((fieldT row v.key).getD ty0).kind = 1
            · have gk := eq_true hk
              have e : hasB s (vRow row) v.cond 2 = decide (ViewIn s v row) := by
                cases hB : hasB s (vRow row) v.cond 2 with
                | true => exact (decide_eq_true ⟨hB, hA, h0, hC, hM, hK, hk⟩).symm
                | false => exact (hno fun h => by have h' := h.1; rw [hB] at h'; cases h').symm
              refine Run ((And.intro (And.intro @eSch_eta (And.intro @eVw_eta @eTm_eta)) (And.intro @eTy_eta (And.intro @g1 @gk)))) ?_; repeat' (first | (with_reducible exact True.intro) | (with_reducible refine Lf.mk ?_ ?_) | (with_reducible intro hb))
              refine CalI (@eTy_eta) (sBool_t) ?_
              refine Run ((And.intro (And.intro @eSch_eta @eVw_eta) (And.intro @eTm_eta @eTy_eta))) ?_; repeat' (first | (with_reducible exact True.intro) | (with_reducible refine Lf.mk ?_ ?_) | (with_reducible intro hb))
              refine Cal ((And.intro (And.intro @eSch_eta @eTm_eta) (And.intro @eTy_eta (And.intro @vRow_len @vRow_eta)))) (HB) ?_
              refine Run ((And.intro (And.intro @eSch_eta @eVw_eta) (And.intro @eTy_eta @e))) ?_; repeat' (first | (with_reducible exact True.intro) | (with_reducible refine Lf.mk ?_ ?_) | (with_reducible intro hb))
            · have gk := eq_false hk
              have e := hno fun h => hk h.2.2.2.2.2.2
              refine Run ((And.intro (And.intro @eSch_eta (And.intro @eVw_eta @eTy_eta)) (And.intro @g1 (And.intro @gk @e)))) ?_; repeat' (first | (with_reducible exact True.intro) | (with_reducible refine Lf.mk ?_ ?_) | (with_reducible intro hb))
    · have gC := eq_false hC
      have e := hno fun h => hC h.2.2.2.1
      refine Run ((And.intro (And.intro @eSch_eta @eVw_eta) (And.intro @eTy_eta (And.intro @gC @e)))) ?_; repeat' (first | (with_reducible exact True.intro) | (with_reducible refine Lf.mk ?_ ?_) | (with_reducible intro hb))

theorem specView_ok (s : List Decl) (hs : okSch (2^20) s) (hz : zSch s ≤ 2^20) (v : Vw) (hv : okVw (2^20) v) (hzv : zVw v ≤ 2^20) : FnP Tryz.prog 7 [agT (eSch s), agT (eVw v)] (bT (decide (ViewOk s v))) := by
  cases hr : rowT s v.table with
  | none => rw [view_a hr]; exact specView_a s hs v hr
  | some row =>
    by_cases hS : SchOk s
    · rw [view_c hS hr]; exact specView_c s hs hz v hv hzv row hr hS
    · rw [view_b hS]; exact specView_b s hs hz v row hr hS
end Go.VC.T
/- Data (View): how they are measured, copied and compared. -/
namespace Go.VC.T
open Go Go.VC Go.Proofs Go.VC.F
set_option linter.unusedSimpArgs false
set_option linter.unusedVariables false
set_option linter.defProp false
set_option maxRecDepth 100000
set_option maxHeartbeats 2000000
def fc6SView := (And.intro (And.intro (And.intro (And.intro (And.intro sz3 ag3) (And.intro zv3 (And.intro un3 sz4))) (And.intro (And.intro ag4 zv4) (And.intro un4 (And.intro sz9 ag9)))) (And.intro (And.intro (And.intro zv9 un9) (And.intro sz25 (And.intro ag25 zv25))) (And.intro (And.intro sb25 un25) (And.intro el25 (And.intro ap25 sz31))))) (And.intro (And.intro (And.intro (And.intro ag31 zv31) (And.intro fl31_0 (And.intro fl31_1 fl31_2))) (And.intro (And.intro fl31_3 fl31_4) (And.intro fl31_5 (And.intro pl31 sz33)))) (And.intro (And.intro (And.intro ag33 zv33) (And.intro fl33_0 (And.intro fl33_1 fl33_2))) (And.intro (And.intro fl33_3 (And.intro pl33 okf21)) (And.intro okf22 (And.intro sz28 sz29))))))
theorem szView_ok (t : Vw) (h : okVw (2^48) t) (left : Int) (hl : 0 ≤ left ∧ left ≤ 2^20) : FnS Tryz.prog 6 [] [agT (eVw t), iT left] [] (iT (szR (zVw t) left)) := by
  refine FnS.go [0, 1, 2, 4, 11, 17, 23, 30] [] Tryz.func6 rfl (fun kt kz => ?_)
  have fcx := fc6SView
  simp only [Tryz.f6]
  have ho := okVw_iff.1 h
  have hs0 : t.table.size = zS t.table := rfl
  have hs3 : t.key.size = zS t.key := rfl
  have hw0 : zS t.table ≤ 2^48 := ho.1
  have hw3 : zS t.key ≤ 2^48 := ho.2.2.2
  refine Run ((And.intro (And.intro @eVw_eta (And.intro @eTm_eta @eTy_eta)) (And.intro @hs0 (And.intro @hs3 @szR_add)))) ?_; repeat' (first | (with_reducible exact True.intro) | (with_reducible refine Lf.mk ?_ ?_) | (with_reducible intro hb))
  · congr 4; have s2 := szR_spec (zVw t) left; rw [zVw_eta] at s2 ⊢; omega
  · skip
    have e : left - (zS t.table : Int) = szR (zS t.table) left := by have s3 := szR_spec (zS t.table) left; omega
    rw [e] at hb ⊢
    refine Cal ((And.intro (And.intro @eVw_eta (And.intro @eTm_eta @eTy_eta)) (And.intro @hs0 (And.intro @hs3 @szR_add)))) (szTerm_ok _ ho.2.1 _ ⟨(by assumption), by have := szR_le (n := zS t.table) hl.1; omega⟩) ?_
    have hz := szR_le (n := zS t.table + zTm t.cond) hl.1
    refine Run ((And.intro (And.intro @eVw_eta (And.intro @eTm_eta @eTy_eta)) (And.intro @hs0 (And.intro @hs3 @szR_add)))) ?_; repeat' (first | (with_reducible exact True.intro) | (with_reducible refine Lf.mk ?_ ?_) | (with_reducible intro hb))
    · congr 4; have s1 := szR_spec (zS t.table + zTm t.cond) left; have s2 := szR_spec (zVw t) left; rw [zVw_eta] at s2 ⊢; omega
    · skip
      refine Cal ((And.intro (And.intro @eVw_eta (And.intro @eTm_eta @eTy_eta)) (And.intro @hs0 (And.intro @hs3 @szR_add)))) (szStringS_ok _ ho.2.2.1 _ ⟨(by assumption), by have := szR_le (n := zS t.table + zTm t.cond) hl.1; omega⟩) ?_
      have hz := szR_le (n := zS t.table + zTm t.cond + zSL t.cols) hl.1
      refine Run ((And.intro (And.intro @eVw_eta (And.intro @eTm_eta @eTy_eta)) (And.intro @hs0 (And.intro @hs3 @szR_add)))) ?_; repeat' (first | (with_reducible exact True.intro) | (with_reducible refine Lf.mk ?_ ?_) | (with_reducible intro hb))
      · congr 4; have s1 := szR_spec (zS t.table + zTm t.cond + zSL t.cols) left; have s2 := szR_spec (zVw t) left; rw [zVw_eta] at s2 ⊢; omega
      · congr 4; have s1 := szR_spec (zS t.table + zTm t.cond + zSL t.cols) left; have s2 := szR_spec (zVw t) left; rw [zVw_eta] at s2 ⊢; omega
      · skip
        have e : szR (zS t.table + zTm t.cond + zSL t.cols) left - (zS t.key : Int) = szR (zS t.table + zTm t.cond + zSL t.cols + zS t.key) left := by have s1 := szR_spec (zS t.table + zTm t.cond + zSL t.cols) left; have s3 := szR_spec (zS t.table + zTm t.cond + zSL t.cols + zS t.key) left; omega
        rw [e] at hb ⊢
        rw [zVw_eta]

def fc9SView := (And.intro (And.intro (And.intro (And.intro (And.intro sz9 (And.intro ag9 zv9)) (And.intro un9 (And.intro sz25 ag25))) (And.intro (And.intro zv25 (And.intro sb25 un25)) (And.intro (And.intro el25 ap25) (And.intro sz31 ag31)))) (And.intro (And.intro (And.intro zv31 (And.intro fl31_0 fl31_1)) (And.intro (And.intro fl31_2 fl31_3) (And.intro fl31_4 fl31_5))) (And.intro (And.intro pl31 (And.intro sz33 ag33)) (And.intro (And.intro zv33 fl33_0) (And.intro fl33_1 fl33_2))))) (And.intro (And.intro (And.intro (And.intro fl33_3 (And.intro pl33 sz46)) (And.intro ag46 (And.intro zv46 fl46_0))) (And.intro (And.intro fl46_1 (And.intro fl46_2 fl46_3)) (And.intro (And.intro fl46_4 fl46_5) (And.intro pl46 sz48)))) (And.intro (And.intro (And.intro ag48 (And.intro zv48 fl48_0)) (And.intro (And.intro fl48_1 fl48_2) (And.intro fl48_3 pl48))) (And.intro (And.intro okf32 (And.intro okf33 sz3)) (And.intro (And.intro sz28 sz29) (And.intro sz43 sz44))))))
theorem toView_w (t : Vw) (h : okVw (2^20) t) : FnS Tryz.prog 9 [] [agT (eVw t)] [(1000, .row t.cond.ty.labels.length (t.cond.ty.labels.flatMap eS)), (1002, .row t.cond.ty.args.length (t.cond.ty.args.flatMap eTy)), (1004, .row t.cond.labels.length (t.cond.labels.flatMap eS)), (1006, .row t.cond.args.length (t.cond.args.flatMap eTm)), (1008, .row t.cols.length (t.cols.flatMap eS))] (.ag [.im (.sc (.string t.table)), .im (.sc (.int .i64 t.cond.kind)), .im (.sc (.string t.cond.name)), .im (.sc (.int .i64 t.cond.n)), .im (.sc (.int .i64 t.cond.ty.kind)), .os 1000 t.cond.ty.labels.length, .os 1002 t.cond.ty.args.length, .os 1004 t.cond.labels.length, .os 1006 t.cond.args.length, .os 1008 t.cols.length, .im (.sc (.string t.key))]) := by
  refine FnS.go [0, 1, 2, 3] [] Tryz.func9 rfl (fun kt kz => ?_)
  have fcx := fc9SView
  simp only [Tryz.f9]
  have ho := okVw_iff.1 h
  refine Run ((And.intro @eVw_eta (And.intro @eTm_eta @eTy_eta))) ?_; repeat' (first | (with_reducible exact True.intro) | (with_reducible refine Lf.mk ?_ ?_) | (with_reducible intro hb))
  refine CalI ((And.intro @eVw_eta (And.intro @eTm_eta @eTy_eta))) (toTerm_o _ ho.2.1 1000 1002 1004 1006 (by decide)) ?_
  refine Run ((And.intro @eVw_eta (And.intro @eTm_eta @eTy_eta))) ?_; repeat' (first | (with_reducible exact True.intro) | (with_reducible refine Lf.mk ?_ ?_) | (with_reducible intro hb))
  refine CalI ((And.intro @eVw_eta (And.intro @eTm_eta @eTy_eta))) (toStringS_o _ ho.2.2.1 1008) ?_
  refine Run ((And.intro @eVw_eta (And.intro @eTm_eta @eTy_eta))) ?_; repeat' (first | (with_reducible exact True.intro) | (with_reducible refine Lf.mk ?_ ?_) | (with_reducible intro hb))

theorem toView_o (t : Vw) (h : okVw (2^20) t) : ∀ q0 q1 q2 q3 q4 : Nat, [q0, q1, q2, q3, q4].Nodup → FnS Tryz.prog 9 [] [agT (eVw t)] [(q0, .row t.cond.ty.labels.length (t.cond.ty.labels.flatMap eS)), (q1, .row t.cond.ty.args.length (t.cond.ty.args.flatMap eTy)), (q2, .row t.cond.labels.length (t.cond.labels.flatMap eS)), (q3, .row t.cond.args.length (t.cond.args.flatMap eTm)), (q4, .row t.cols.length (t.cols.flatMap eS))] (.ag [.im (.sc (.string t.table)), .im (.sc (.int .i64 t.cond.kind)), .im (.sc (.string t.cond.name)), .im (.sc (.int .i64 t.cond.n)), .im (.sc (.int .i64 t.cond.ty.kind)), .os q0 t.cond.ty.labels.length, .os q1 t.cond.ty.args.length, .os q2 t.cond.labels.length, .os q3 t.cond.args.length, .os q4 t.cols.length, .im (.sc (.string t.key))]) := by
  intro q0 q1 q2 q3 q4 hq
  obtain ⟨p, hp⟩ := pml [1000, 1002, 1004, 1006, 1008] [q0, q1, q2, q3, q4] (by decide) hq rfl
  simp only [List.map_cons, List.map_nil, List.cons.injEq, and_true] at hp
  refine ((toView_w t h).rows.pm p).as ?_ ?_ <;> simp [rowS, rowO, renS, Ob.ren, TV.ren, renL, Cell.ren, hp]

def fc12SView := (And.intro (And.intro (And.intro (And.intro (And.intro sz4 ag4) (And.intro zv4 un4)) (And.intro (And.intro sz9 ag9) (And.intro zv9 (And.intro un9 sz25)))) (And.intro (And.intro (And.intro ag25 zv25) (And.intro sb25 (And.intro un25 el25))) (And.intro (And.intro ap25 sz46) (And.intro ag46 (And.intro zv46 fl46_0))))) (And.intro (And.intro (And.intro (And.intro fl46_1 fl46_2) (And.intro fl46_3 fl46_4)) (And.intro (And.intro fl46_5 pl46) (And.intro sz48 (And.intro ag48 zv48)))) (And.intro (And.intro (And.intro fl48_0 fl48_1) (And.intro fl48_2 (And.intro fl48_3 pl48))) (And.intro (And.intro okf44 okf45) (And.intro sz3 (And.intro sz43 sz44))))))
theorem eqView_ok (t : Vw) (h : okVw (2^20) t) : FnS Tryz.prog 12 [] [agT (eVw t), agT (eVw t)] [] (bT true) := by
  refine FnS.go [0, 1, 2, 3, 4, 9, 15, 21, 26] [] Tryz.func12 rfl (fun kt kz => ?_)
  have fcx := fc12SView
  simp only [Tryz.f12]
  have ho := okVw_iff.1 h
  refine Run ((And.intro @eVw_eta (And.intro @eTm_eta @eTy_eta))) ?_; repeat' (first | (with_reducible exact True.intro) | (with_reducible refine Lf.mk ?_ ?_) | (with_reducible intro hb))
  refine Cal ((And.intro @eVw_eta (And.intro @eTm_eta @eTy_eta))) (eqTerm_ok _ ho.2.1) ?_
  refine Run ((And.intro @eVw_eta (And.intro @eTm_eta @eTy_eta))) ?_; repeat' (first | (with_reducible exact True.intro) | (with_reducible refine Lf.mk ?_ ?_) | (with_reducible intro hb))
  refine Cal ((And.intro @eVw_eta (And.intro @eTm_eta @eTy_eta))) (eqStringS_rf _ ho.2.2.1) ?_
  refine Run ((And.intro @eVw_eta (And.intro @eTm_eta @eTy_eta))) ?_; repeat' (first | (with_reducible exact True.intro) | (with_reducible refine Lf.mk ?_ ?_) | (with_reducible intro hb))

theorem toView_ok (t : Vw) (h : okVw (2^20) t) : FnP Tryz.prog 9 [agT (eVw t)] (agT (eVw t)) := (toView_o t h 1000 1002 1004 1006 1008 (by decide)).tree (by simp -dsimp (maxSteps := 2000000) (disch := omega) only [vs, ↓Option.bind_some, ev1, ofV, scalarB, Kn, Kb, calleeOf, evLoad, ptr, evField, evFieldAddr, shift, ↓pt_at, ↓pt_at1, evExtract, evBin, evLen, evConv, cellsT, noS, Cell.has, Cell.hasN, Cell.anyN, toIV, toIV0, toIVs, ownC, srcM, Ob.own, Ob.esz, allSc, nilK, lenC, ownCell, isPtr, ptrNil, frzO, Cell.frz, Cell.keys, ↓reduceIte, reduceCtorEq, Nat.reduceEqDiff, Nat.reduceBEq, Nat.reduceBNe, Nat.reduceAdd, Nat.reduceMul, Nat.reduceSub, Nat.reduceLT, Nat.reduceLeDiff, Nat.reducePow, Int.reduceLT, Int.reduceLE, Int.reduceEq, Int.reduceNe, quietB, Nat.reduceMod, Int.reduceToNat, ne_eq, eq_self, exists_const, evBytes, byRow, byL, byStr_size, ifsz, ByteArray.size_append, Option.none_or, Option.some_or, evLook, keyD, eVw_eta, eTm_eta, eTy_eta])

end Go.VC.T
/- The law of IsView: it says yes. -/
namespace Go.VC.T
open Go Go.VC Go.Proofs Go.VC.F
set_option linter.unusedSimpArgs false
set_option linter.unusedVariables false
set_option linter.defProp false
set_option maxRecDepth 100000
set_option maxHeartbeats 2000000
def fc3A110 := (And.intro (And.intro (And.intro (And.intro (And.intro sz3 (And.intro ag3 zv3)) (And.intro un3 (And.intro sz4 ag4))) (And.intro (And.intro zv4 (And.intro un4 sz24)) (And.intro ag24 (And.intro zv24 fl24_0)))) (And.intro (And.intro (And.intro pl24 (And.intro sz33 ag33)) (And.intro zv33 (And.intro fl33_0 fl33_1))) (And.intro (And.intro fl33_2 (And.intro fl33_3 pl33)) (And.intro sz39 (And.intro ag39 zv39))))) (And.intro (And.intro (And.intro (And.intro fl39_0 (And.intro pl39 sz48)) (And.intro ag48 (And.intro zv48 fl48_0))) (And.intro (And.intro fl48_1 (And.intro fl48_2 fl48_3)) (And.intro pl48 (And.intro okf5 okf6)))) (And.intro (And.intro (And.intro okf7 (And.intro okf8 okf9)) (And.intro okf10 (And.intro okf11 okf12))) (And.intro (And.intro sz22 (And.intro sz9 sz31)) (And.intro sz25 (And.intro sz37 sz46))))))
theorem isView_law (a : List Decl) (b : Vw) (ha : okSch (2^48) a) (hb' : okVw (2^48) b) : FnS Tryz.prog 3 [] [agT (eSch a), agT (eVw b)] [] (bT true) := by
  refine FnS.go [0, 1, 2, 3, 4, 5, 6, 7, 8, 9, 14, 19, 34, 39, 44] [] Tryz.func3 rfl (fun kt kz => ?_)
  have fcx := fc3A110
  simp only [Tryz.f3]
  refine Run ((And.intro @eSch_eta @eVw_eta)) ?_; repeat' (first | (with_reducible exact True.intro) | (with_reducible refine Lf.mk ?_ ?_) | (with_reducible intro hb))
  refine Cal (@eSch_eta) (szSchema_ok a ha 1048576 ⟨by omega, by omega⟩) ?_
  refine Run ((And.intro @eSch_eta @eVw_eta)) ?_; repeat' (first | (with_reducible exact True.intro) | (with_reducible refine Lf.mk ?_ ?_) | (with_reducible intro hb))
  have h1 := szR_spec (zSch a) 1048576
  have h2 := szR_spec (zVw b) (szR (zSch a) 1048576)
  have ha' : okSch (2^20) a := okSch_down ha (by omega)
  refine Cal (@eVw_eta) (szView_ok b hb' (szR (zSch a) 1048576) ⟨by omega, by omega⟩) ?_
  refine Run ((And.intro @eSch_eta @eVw_eta)) ?_; repeat' (first | (with_reducible exact True.intro) | (with_reducible refine Lf.mk ?_ ?_) | (with_reducible intro hb))
  have hb2 : okVw (2^20) b := okVw_down hb' (by omega)
  have hta := toSchema_ok a ha'
  have htb := toView_ok b hb2
  refine CalI (@eSch_eta) (hta) ?_
  refine Run ((And.intro @eSch_eta @eVw_eta)) ?_; repeat' (first | (with_reducible exact True.intro) | (with_reducible refine Lf.mk ?_ ?_) | (with_reducible intro hb))
  refine CalI (@eVw_eta) (htb) ?_
  refine Run ((And.intro @eSch_eta @eVw_eta)) ?_; repeat' (first | (with_reducible exact True.intro) | (with_reducible refine Lf.mk ?_ ?_) | (with_reducible intro hb))
  refine Cal ((And.intro @eSch_eta @eVw_eta)) (specView_ok a ha' (by omega) b hb2 (by omega)) ?_
  refine Run ((And.intro @eSch_eta @eVw_eta)) ?_; repeat' (first | (with_reducible exact True.intro) | (with_reducible refine Lf.mk ?_ ?_) | (with_reducible intro hb))
  refine CalI (@eSch_eta) (hta) ?_
  refine Run ((And.intro @eSch_eta @eVw_eta)) ?_; repeat' (first | (with_reducible exact True.intro) | (with_reducible refine Lf.mk ?_ ?_) | (with_reducible intro hb))
  refine CalI (@eVw_eta) (htb) ?_
  refine Run ((And.intro @eSch_eta @eVw_eta)) ?_; repeat' (first | (with_reducible exact True.intro) | (with_reducible refine Lf.mk ?_ ?_) | (with_reducible intro hb))
  refine Cal ((And.intro @eSch_eta @eVw_eta)) (implView_ok a ha' (by omega) b hb2 (by omega)) ?_
  refine Run ((And.intro @eSch_eta @eVw_eta)) ?_; repeat' (first | (with_reducible exact True.intro) | (with_reducible refine Lf.mk ?_ ?_) | (with_reducible intro hb))
  refine CalI (@eSch_eta) (hta) ?_
  refine Run ((And.intro @eSch_eta @eVw_eta)) ?_; repeat' (first | (with_reducible exact True.intro) | (with_reducible refine Lf.mk ?_ ?_) | (with_reducible intro hb))
  refine Cal (@eSch_eta) (eqSchema_ok a ha') ?_
  refine Run ((And.intro @eSch_eta @eVw_eta)) ?_; repeat' (first | (with_reducible exact True.intro) | (with_reducible refine Lf.mk ?_ ?_) | (with_reducible intro hb))
  refine CalI (@eVw_eta) (htb) ?_
  refine Run ((And.intro @eSch_eta @eVw_eta)) ?_; repeat' (first | (with_reducible exact True.intro) | (with_reducible refine Lf.mk ?_ ?_) | (with_reducible intro hb))
  refine Cal (@eVw_eta) (eqView_ok b hb2) ?_
  refine Run ((And.intro @eSch_eta @eVw_eta)) ?_; repeat' (first | (with_reducible exact True.intro) | (with_reducible refine Lf.mk ?_ ?_) | (with_reducible intro hb))

end Go.VC.T
