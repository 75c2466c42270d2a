/- Closed calls that the kernel carries out: parts of slices, built-in functions, literals. -/
import Derived.Test.YtpmjbobgglgnaaaGreatDoorE6
namespace Go.Proofs.YtpmjbobgglgnaaaGreatDoor
noncomputable section
open Go.RowKit
set_option linter.unusedVariables false
set_option linter.unusedSimpArgs false
section
variable {w0 : World} {n : Nat} {t : Tr} {H : AH} {ρ : Rho} {s : Sl} {h : List Bx} {hf : List Bx} {o : Option Tmp} {dd : Option Tmp} {g : Option (Option Tmp × Bool)} {ty tt tu : TypeId} {x y : Operand} {v : AV}
def OptN (s : Sl) : Option Operand → Option Nat → Prop
  | none, none => True
  | some x, some m => ∃ k, ev s x = some (.int k (m : Int))
  | _, _ => False
def optN (t : Tr) : Option Operand → Option (Option Nat)
  | none => some none
  | some x => match natOf (evA t x) with
    | some m => some (some m)
    | none => none
theorem optN_ok (hk : Kn ρ t s) {lo : Option Operand} {q : Option Nat} (h : optN t lo = some q) : OptN s lo q := by
  cases lo with
  | none => simp only [optN, Option.some.injEq] at h; subst h; trivial
  | some x =>
    simp only [optN] at h
    split at h
    · rename_i m hm
      simp only [Option.some.injEq] at h; subst h
      exact natOf_ok hk hm
    · cases h
theorem run_bound (k : IntKind) (m y : Nat) (code : BoundsCode) (h : m ≤ y) (W : World) : (Instr.sliceBound (.int k (m : Int)) y code).run Tryz.prog W = .ok m W := by
  have h0 : (0 : Int) ≤ (m : Int) ∧ (m : Int) ≤ (y : Int) := by omega
  simp [Instr.sliceBound, asIntOf, h]
/-- What the bounds of a slice come to. -/
theorem run_bounds {lo hi mx : Option Operand} {ql qh qm : Option Nat} {tm : Array Value} (hk : Knows n s tm) (hl : OptN s lo ql) (hh : OptN s hi qh) (hm : OptN s mx qm) (len cap : Nat)
    (h1 : ql.getD 0 ≤ qh.getD len) (h2 : qh.getD len ≤ qm.getD cap) (h3 : qm.getD cap ≤ cap) (h4 : qm.isSome = true → qh.isSome = true) (b : Bool) (W : World) :
    (Instr.sliceBounds b len cap (lo.map (Act.eval ⟨tm, []⟩)) (hi.map (Act.eval ⟨tm, []⟩)) (mx.map (Act.eval ⟨tm, []⟩))).run Tryz.prog W = .ok (ql.getD 0, qh.getD len, qm.getD cap) W := by
  have bl : ∀ (lo : Option Operand) (ql : Option Nat), OptN s lo ql → (lo = none ∧ ql = none) ∨ ∃ x m k, lo = some x ∧ ql = some m ∧ Act.eval ⟨tm, []⟩ x = .int k (m : Int) := by
    intro lo ql h
    cases lo with
    | none => cases ql with
      | none => exact .inl ⟨rfl, rfl⟩
      | some m => exact h.elim
    | some x => cases ql with
      | none => exact h.elim
      | some m => obtain ⟨k, hk2⟩ := h; exact .inr ⟨x, m, k, rfl, rfl, ev_ok hk hk2⟩
  rcases bl lo ql hl with ⟨rfl, rfl⟩ | ⟨x, ml, kl, rfl, rfl, el⟩ <;> rcases bl hi qh hh with ⟨rfl, rfl⟩ | ⟨y, mh, kh, rfl, rfl, eh⟩ <;> rcases bl mx qm hm with ⟨rfl, rfl⟩ | ⟨z, mm, km, rfl, rfl, em⟩
  all_goals simp only [Option.getD_some, Option.getD_none, Option.isSome_some, Option.isSome_none, forall_const, Bool.false_eq_true, false_imp_iff, true_imp_iff] at h1 h2 h3 h4
  all_goals simp only [Instr.sliceBounds, Option.map_some, Option.map_none, Sem.run_bind, *, Result.andThen_ok, run_bound, Option.getD_some, Option.getD_none, Sem.run_pure]
theorem y_sliceG {lo hi mx : Option Operand} {ql qh qm : Option Nat} {A : Option Addr} {len cap kk : Nat} (hx : ev s x = some (.slice A len cap)) (ht : lkN slL tt = some kk) (hl : OptN s lo ql) (hh : OptN s hi qh) (hm : OptN s mx qm)
    (h1 : ql.getD 0 ≤ qh.getD len) (h2 : qh.getD len ≤ qm.getD cap) (h3 : qm.getD cap ≤ cap) (h4 : qm.isSome = true → qh.isSome = true) (hw : Wan s g true) :
    Y Tryz.prog w0 n s h ⟨dd, .slice tt x lo hi mx, ty, g⟩ (.slice (if qm.getD cap = ql.getD 0 then A else A.map (·.add (ql.getD 0 * kk))) (qh.getD len - ql.getD 0) (qm.getD cap - ql.getD 0)) := by
  obtain ⟨e, hu, hsz, _⟩ := sl_ty ht
  refine y_yield hw (fun tm W hk hW => ?_)
  simp only [execOp, CO.oper, ev_ok (ds := []) hk hx, Instr.sliceAt, Sem.run_bind, run_underlying hu, Result.andThen_ok, Instr.slice, run_bounds hk hl hh hm len cap h1 h2 h3 h4]
  simp [Sem.run_bind, hsz]
theorem y_strG {lo hi : Option Operand} {ql qh : Option Nat} {xs : List UInt8} (hx : ev s x = some (.string (ofL xs))) (ht : strTy tt = true) (hl : OptN s lo ql) (hh : OptN s hi qh)
    (h1 : ql.getD 0 ≤ qh.getD xs.length) (h2 : qh.getD xs.length ≤ xs.length) (hw : Wan s g true) :
    Y Tryz.prog w0 n s h ⟨dd, .slice tt x lo hi none, ty, g⟩ (.string (ofL ((xs.take (qh.getD xs.length)).drop (ql.getD 0)))) := by
  have hu := str_ty (strTy_ok ht)
  refine y_yield hw (fun tm W hk hW => ?_)
  have hb := run_bounds (mx := none) (qm := none) hk hl hh trivial xs.length xs.length h1 h2 (Nat.le_refl _) (by simp) false W
  simp only [Option.map_none] at hb
  simp only [execOp, CO.oper, ev_ok (ds := []) hk hx, Instr.sliceAt, Sem.run_bind, run_underlying hu, Result.andThen_ok, Instr.slice, Option.map_none, ofL_size, hb]
  simp [Sem.run_bind, ofL_extract, hb]
def ySlc (t : Tr) (H : AH) (tt : TypeId) (x : Operand) (lo hi mx : Option Operand) : Option AV :=
  match evA t x, optN t lo, optN t hi, optN t mx with
  | some (.str xs), some ql, some qh, some none =>
    bif strTy tt && Nat.ble (ql.getD 0) (qh.getD xs.length) && Nat.ble (qh.getD xs.length) xs.length then some (.str ((xs.take (qh.getD xs.length)).drop (ql.getD 0))) else none
  | some (.ptr k o), some none, some none, some none => match arT.at tt with
    | some (n, _) => some (.sli k o n true n)
    | none => none
  | some .nils, some ql, some qh, some none =>
    bif (slT.at tt).isSome && Nat.beq (ql.getD 0) 0 && Nat.beq (qh.getD 0) 0 then some .nils else none
  | some (.sli k o len kn c), some ql, some qh, some qm =>
    match slT.at tt with
    | some kk =>
      bif kn then
        bif Nat.ble (ql.getD 0) (qh.getD len) && Nat.ble (qh.getD len) (qm.getD c) && Nat.ble (qm.getD c) c && (!qm.isSome || qh.isSome) then
          (bif Nat.beq (qm.getD c) (ql.getD 0) then some (.sli k o (qh.getD len - ql.getD 0) true (qm.getD c - ql.getD 0)) else some (.sli k (o + ql.getD 0 * kk) (qh.getD len - ql.getD 0) true (qm.getD c - ql.getD 0)))
        else none
      else match AHfind H k with
        | some b => match b.gr with
          | some z => bif Nat.beq z kk && Nat.blt 0 kk && Nat.ble ((c + len) * kk) b.cs.length && Nat.ble (ql.getD 0) (qh.getD len) && Nat.ble (qh.getD len) len then
              (match qm with
              | some m => bif Nat.ble (qh.getD len) m && Nat.ble m len && qh.isSome then
                  (bif Nat.beq m (ql.getD 0) then some (.sli k o (qh.getD len - ql.getD 0) true (m - ql.getD 0)) else some (.sli k (o + ql.getD 0 * kk) (qh.getD len - ql.getD 0) true (m - ql.getD 0)))
                else none
              | none => bif Nat.blt (ql.getD 0) len || Nat.beq (ql.getD 0) 0 then some (.sli k (o + ql.getD 0 * kk) (qh.getD len - ql.getD 0) false (c + ql.getD 0)) else none)
            else none
          | none => none
        | none => none
    | none => none
  | _, _, _, _ => none
/-- The room of a block that grows. -/
theorem room {k : Nat} {b : Bk} {z q : Nat} (hg : Gr ρ H) (hb : AHfind H k = some b) (hz : b.gr = some z) (h0 : 0 < z) (hq : q * z ≤ b.cs.length) : q ≤ (ρ k).cap := by
  have := hg k b z (find_mem hb) hz
  have h1 : q * z ≤ (ρ k).cap * z := by omega
  exact Nat.le_of_mul_le_mul_right h1 h0
theorem ySlc_ok {lo hi mx : Option Operand} (h : ySlc t H tt x lo hi mx = some v) : YS w0 t H (.slice tt x lo hi mx) ty v := by
  intro ρ n s hf o g hk hg hw
  unfold ySlc at h
  split at h
  · rename_i xs ql qh hx h1 h2 h3
    cases hb : (strTy tt && Nat.ble (ql.getD 0) (qh.getD xs.length) && Nat.ble (qh.getD xs.length) xs.length) with
    | false => rw [hb] at h; cases h
    | true =>
      rw [hb] at h; simp only [cond_true, Option.some.injEq] at h; subst h
      simp only [Bool.and_eq_true, Nat.ble_eq] at hb
      have hx' := evA_ok hk hx
      have e3 := optN_ok hk h3
      cases mx with
      | some _ => exact e3.elim
      | none =>
        simp only [sh] at hx' ⊢
        exact y_strG hx' hb.1.1 (optN_ok hk h1) (optN_ok hk h2) hb.1.2 hb.2 hw
  · rename_i k i hx h1 h2 h3
    have hx' := evA_ok hk hx
    have e1 := optN_ok hk h1
    have e2 := optN_ok hk h2
    have e3 := optN_ok hk h3
    cases lo with
    | some _ => exact e1.elim
    | none =>
      cases hi with
      | some _ => exact e2.elim
      | none =>
        cases mx with
        | some _ => exact e3.elim
        | none =>
          split at h
          · rename_i q kk hq
            simp only [Option.some.injEq] at h; subst h
            obtain ⟨e, j, hu, hj, hjs, h1⟩ := ar_ty hq
            simp only [sh] at hx' ⊢
            refine y_yield hw (fun tm W hkn hW => ?_)
            simp only [execOp, CO.oper, ev_ok (ds := []) hkn hx', Instr.sliceAt, Sem.run_bind, run_underlying hu, Result.andThen_ok, Instr.sureAddr, Option.map_none, Instr.sliceBounds]
            simp [Sem.run_bind, sizeOf_run hj, add0]
          · cases h
  · rename_i ql qh hx h1 h2 h3
    cases hb : ((slT.at tt).isSome && Nat.beq (ql.getD 0) 0 && Nat.beq (qh.getD 0) 0) with
    | false => rw [hb] at h; cases h
    | true =>
      rw [hb] at h; simp only [cond_true, Option.some.injEq] at h; subst h
      simp only [Bool.and_eq_true, Nat.beq_eq, Option.isSome_iff_exists] at hb
      obtain ⟨⟨⟨kk, hkk⟩, b1⟩, b2⟩ := hb
      rw [slT_ok] at hkk
      have hx' := evA_ok hk hx
      simp only [sh] at hx'
      have := y_sliceG (w0 := w0) (n := n) (h := hl ρ H ++ hf) (dd := o) (ty := ty) hx' hkk (optN_ok hk h1) (optN_ok hk h2) (optN_ok hk h3) (by omega) (by simp [b2]) (by simp) (by simp) hw
      simpa [sh, b1, b2] using this
  · rename_i k i len kn c ql qh qm hx h1 h2 h3
    split at h
    · rename_i kk hkk
      rw [slT_ok] at hkk
      have hx' := evA_ok hk hx
      simp only [sh] at hx'
      have e1 := optN_ok hk h1
      have e2 := optN_ok hk h2
      have e3 := optN_ok hk h3
      cases kn with
      | true =>
        simp only [cond_true] at h
        cases hb : (Nat.ble (ql.getD 0) (qh.getD len) && Nat.ble (qh.getD len) (qm.getD c) && Nat.ble (qm.getD c) c && (!qm.isSome || qh.isSome)) with
        | false => rw [hb] at h; cases h
        | true =>
          rw [hb] at h; simp only [cond_true] at h
          simp only [Bool.and_eq_true, Nat.ble_eq, Bool.or_eq_true, Bool.not_eq_true'] at hb
          obtain ⟨⟨⟨b1, b2⟩, b3⟩, b4⟩ := hb
          have := y_sliceG (w0 := w0) (n := n) (h := hl ρ H ++ hf) (dd := o) (ty := ty) hx' hkk e1 e2 e3 b1 b2 b3 (fun hq => b4.resolve_left (by rw [hq]; simp)) hw
          cases hq : Nat.beq (qm.getD c) (ql.getD 0) with
          | true =>
            rw [hq] at h; simp only [cond_true, Option.some.injEq] at h; subst h
            rw [Nat.beq_eq] at hq
            simpa [sh, hq] using this
          | false =>
            rw [hq] at h; simp only [cond_false, Option.some.injEq] at h; subst h
            have hne : ¬ qm.getD c = ql.getD 0 := Nat.ne_of_beq_eq_false hq
            simpa [sh, hne, add0] using this
      | false =>
        simp only [cond_false] at h
        split at h
        · rename_i b hfb
          split at h
          · rename_i z hz
            cases hb : (Nat.beq z kk && Nat.blt 0 kk && Nat.ble ((c + len) * kk) b.cs.length && Nat.ble (ql.getD 0) (qh.getD len) && Nat.ble (qh.getD len) len) with
            | false => rw [hb] at h; cases h
            | true =>
              rw [hb] at h; simp only [cond_true] at h
              simp only [Bool.and_eq_true, Nat.ble_eq, Nat.blt_eq, Nat.beq_eq] at hb
              obtain ⟨⟨⟨⟨b1, b2⟩, b3⟩, b4⟩, b5⟩ := hb
              subst b1
              have hr : c + len ≤ (ρ k).cap := room hg hfb hz b2 b3
              simp only [Bool.false_eq_true, if_false] at hx'
              split at h
              · rename_i m
                cases hb2 : (Nat.ble (qh.getD len) m && Nat.ble m len && qh.isSome) with
                | false => rw [hb2] at h; cases h
                | true =>
                  rw [hb2] at h; simp only [cond_true] at h
                  simp only [Bool.and_eq_true, Nat.ble_eq] at hb2
                  have := y_sliceG (w0 := w0) (n := n) (h := hl ρ H ++ hf) (dd := o) (ty := ty) hx' hkk e1 e2 e3 b4 (by simpa using hb2.1.1) (by simp only [Option.getD_some]; omega) (fun _ => hb2.2) hw
                  cases hq : Nat.beq m (ql.getD 0) with
                  | true =>
                    rw [hq] at h; simp only [cond_true, Option.some.injEq] at h; subst h
                    rw [Nat.beq_eq] at hq
                    simpa [sh, hq] using this
                  | false =>
                    rw [hq] at h; simp only [cond_false, Option.some.injEq] at h; subst h
                    have hne : ¬ m = ql.getD 0 := Nat.ne_of_beq_eq_false hq
                    simpa [sh, hne, add0] using this
              · cases hb2 : (Nat.blt (ql.getD 0) len || Nat.beq (ql.getD 0) 0) with
                | false => rw [hb2] at h; cases h
                | true =>
                  rw [hb2] at h; simp only [cond_true, Option.some.injEq] at h; subst h
                  simp only [Bool.or_eq_true, Nat.blt_eq, Nat.beq_eq] at hb2
                  have := y_sliceG (w0 := w0) (n := n) (h := hl ρ H ++ hf) (dd := o) (ty := ty) hx' hkk e1 e2 e3 b4 (by simp only [Option.getD_none]; omega) (by simp) (by simp) hw
                  have hsub : (ρ k).cap - c - ql.getD 0 = (ρ k).cap - (c + ql.getD 0) := by omega
                  by_cases h0 : ql.getD 0 = 0
                  · simpa [sh, h0, add0, hsub] using this
                  · have hne : ¬ (ρ k).cap - c = ql.getD 0 := by omega
                    simpa [sh, hne, add0, hsub] using this
          · cases h
        · cases h
    · cases h
  · cases h
end
end
end Go.Proofs.YtpmjbobgglgnaaaGreatDoor
