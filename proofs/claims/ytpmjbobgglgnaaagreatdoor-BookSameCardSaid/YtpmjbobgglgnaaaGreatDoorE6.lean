/- Closed calls that the kernel carries out: slices, conversions, parts. -/
import Derived.Test.YtpmjbobgglgnaaaGreatDoorE5
namespace Go.Proofs.YtpmjbobgglgnaaaGreatDoor
noncomputable section
open Go.RowKit
set_option linter.unusedVariables false
set_option linter.unusedSimpArgs false
def natOf : Option AV → Option Nat
  | some (.int _ (.ofNat m)) => some m
  | _ => none
section
variable {w0 : World} {n : Nat} {t : Tr} {H : AH} {ρ : Rho} {s : Sl} {hf : List Bx} {o : Option Tmp} {g : Option (Option Tmp × Bool)} {ty tt tu : TypeId} {x y : Operand} {v : AV}
theorem natOf_ok (hk : Kn ρ t s) {m : Nat} (h : natOf (evA t x) = some m) : ∃ k, ev s x = some (.int k (m : Int)) := by
  unfold natOf at h
  split at h
  · rename_i k q hx
    simp only [Option.some.injEq] at h; subst h
    exact ⟨k, by have := evA_ok hk hx; simpa [sh] using this⟩
  · cases h
def strTy (tt : TypeId) : Bool := Nat.beq tt 9 || Nat.beq tt 10 || Nat.beq tt 11
theorem strTy_ok (h : strTy tt = true) : ([9, 10, 11] : List Nat).contains tt = true := by
  simp only [strTy, Bool.or_eq_true, Nat.beq_eq] at h
  rcases h with (rfl | rfl) | rfl <;> rfl
def yUn (t : Tr) (op : UnOp) (x : Operand) : Option AV :=
  match op, evA t x with
  | .not, some (.bool b) => some (.bool !b)
  | .neg, some (.int k n) => some (.int k (k.wrap (0 - n)))
  | _, _ => none
theorem yUn_ok {op : UnOp} (h : yUn t op x = some v) : YS w0 t H (.unOp op tt x) ty v := by
  intro ρ n s hf o g hk hg hw
  unfold yUn at h
  split at h
  · rename_i b hx
    simp only [Option.some.injEq] at h; subst h
    exact y_not (by have := evA_ok hk hx; simpa [sh] using this) hw
  · rename_i k m hx
    simp only [Option.some.injEq] at h; subst h
    have hx' := evA_ok hk hx
    refine y_yield hw (fun tm W hkn hi => ?_)
    show (do let r ← Op.unary .neg (Act.eval ⟨tm, []⟩ x); pure (Next.value r) : Sem Next).run Tryz.prog W = _
    rw [ev_ok (ds := []) hkn hx']
    simp [sh, Op.unary, Op.intArith]
  · cases h
def byteOf : AV → Option UInt8
  | .int .u8 (.ofNat m) => bif Nat.blt m 256 then some (UInt8.ofNat m) else none
  | _ => none
def bytesOf : List AV → Option (List UInt8)
  | [] => some []
  | v :: vs => match byteOf v, bytesOf vs with
    | some b, some bs => some (b :: bs)
    | _, _ => none
theorem byteOf_ok {b : UInt8} (h : byteOf v = some b) : sh ρ v = byV b := by
  unfold byteOf at h
  split at h
  · rename_i m
    cases hb : Nat.blt m 256 with
    | false => rw [hb] at h; cases h
    | true =>
      rw [hb] at h; simp only [cond_true, Option.some.injEq] at h; subst h
      rw [Nat.blt_eq] at hb
      simp only [sh, byV, Value.int.injEq, true_and]
      rw [UInt8.toNat_ofNat', Nat.mod_eq_of_lt hb]; rfl
  · cases h
theorem bytesOf_ok : ∀ {l : List AV} {bs : List UInt8}, bytesOf l = some bs → shL ρ l = bytesV bs
  | [], _, h => by simp only [bytesOf, Option.some.injEq] at h; subst h; rfl
  | v :: l, _, h => by
    simp only [bytesOf] at h
    split at h
    · rename_i b bs h1 h2
      simp only [Option.some.injEq] at h; subst h
      simp [shL, bytesV, byteOf_ok h1]
      exact bytesOf_ok h2
    · cases h
/-- The cells of a slice. -/
def rowV (H : AH) (kk : Nat) : AV → Option (List AV)
  | .nils => some []
  | .emp _ => some []
  | .sli k o len _ _ => match AHfind H k with
    | some b => nthsV b.cs o (len * kk)
    | none => none
  | _ => none
def slOf (ρ : Rho) : AV → Option Addr × Nat × Nat
  | .sli k o len kn c => (some ⟨(ρ k).g, o, none⟩, len, if kn then c else (ρ k).cap - c)
  | .emp k => ((ρ k).a, 0, (ρ k).cap)
  | _ => (none, 0, 0)
def isSl : AV → Bool
  | .nils | .emp _ | .sli _ _ _ _ _ => true
  | _ => false
theorem isSl_sh (h : isSl v = true) : sh ρ v = .slice (slOf ρ v).1 (slOf ρ v).2.1 (slOf ρ v).2.2 := by
  cases v <;> simp [isSl] at h <;> simp [sh, slOf]
theorem rowV_in {kk : Nat} {cs : List AV} (h : rowV H kk v = some cs) (h1 : all1V cs = true) : isSl v = true ∧ RowIn kk w0 (hl ρ H ++ hf) (slOf ρ v).1 (slOf ρ v).2.1 (shL ρ cs) := by
  cases v <;> simp only [rowV, Option.some.injEq, reduceCtorEq] at h
  case nils => subst h; exact ⟨rfl, ⟨by simp [slOf, shL], fun hn => absurd rfl hn, rfl, fun W hi j v hj => by simp [shL] at hj⟩⟩
  case emp k => subst h; exact ⟨rfl, ⟨by simp [slOf, shL], fun hn => absurd rfl hn, rfl, fun W hi j v hj => by simp [shL] at hj⟩⟩
  case sli k o len kn c =>
    split at h
    · rename_i b hb
      have hm := bx_mem (ρ := ρ) (hf := hf) hb
      obtain ⟨e1, e2⟩ := nthsV_at (ρ := ρ) (if b.gr.isSome then (ρ k).tl else []) h
      refine ⟨rfl, ⟨by rw [shL_len, e1]; rfl, fun _ => rfl, all1V_ok h1, fun W hi j v hj => ?_⟩⟩
      show W.cell? ⟨(ρ k).g, o + j, none⟩ = some v
      rw [hi.cell _ hm]
      simp only [List.getElem?_toArray]
      exact e2 j v hj
    · cases h
def yConv (t : Tr) (H : AH) (tt tu : TypeId) (x : Operand) : Option AV :=
  match evA t x with
  | some (.int l a) => match ikT.at tt, ikT.at tu with
    | some l', some k => bif ikEq l l' then some (.int k (k.wrap a)) else none
    | _, _ => none
  | some v => bif Nat.beq tt 267 && strTy tu then match rowV H 1 v with
      | some cs => match bytesOf cs with
        | some bs => bif all1V cs then some (.str bs) else none
        | none => none
      | none => none
    else none
  | none => none
theorem yConv_ok (h : yConv t H tt tu x = some v) : YS w0 t H (.convert tt tu x) ty v := by
  intro ρ n s hf o g hk hg hw
  unfold yConv at h
  split at h
  · rename_i l a hx
    split at h
    · rename_i l' k h1 h2
      cases hb : ikEq l l' with
      | false => rw [hb] at h; cases h
      | true =>
        rw [hb] at h; simp only [cond_true, Option.some.injEq] at h; subst h
        have : l = l' := ikEq_iff.1 hb
        subst this
        have hx' := evA_ok hk hx
        simp only [sh] at hx' ⊢
        exact y_convW hx' (by rw [← ikT_ok]; exact h1) (by rw [← ikT_ok]; exact h2) hw
    · cases h
  · rename_i u hne hx
    cases hb : (Nat.beq tt 267 && strTy tu) with
    | false => rw [hb] at h; cases h
    | true =>
      rw [hb] at h; simp only [cond_true] at h
      simp only [Bool.and_eq_true, Nat.beq_eq] at hb
      split at h
      · rename_i cs hcs
        split at h
        · rename_i bs hbs
          cases ha : all1V cs with
          | false => rw [ha] at h; cases h
          | true =>
            rw [ha] at h; simp only [cond_true, Option.some.injEq] at h; subst h
            obtain ⟨e1, e2⟩ := rowV_in (w0 := w0) (ρ := ρ) (hf := hf) hcs ha
            have hx' := evA_ok hk hx
            rw [isSl_sh (ρ := ρ) e1] at hx'
            rw [bytesOf_ok hbs] at e2
            simp only [sh]
            exact y_bts hx' e2 (by rw [hb.1]; rfl) (strTy_ok hb.2) hw
        · cases h
      · cases h
  · cases h
def yNil (t : Tr) (x : Operand) : Option AV :=
  match evA t x with
  | some (.ptr k i) => some (.ptr k i)
  | some (.fn f a c) => some (.fn f a c)
  | _ => none
theorem yNil_ok (h : yNil t x = some v) : YS w0 t H (.nilCheck x) ty v := by
  intro ρ n s hf o g hk hg hw
  unfold yNil at h
  split at h
  · rename_i k i hx
    simp only [Option.some.injEq] at h; subst h
    have hx' := evA_ok hk hx
    simp only [sh] at hx' ⊢
    exact y_yield hw (fun tm W hkn hi => by simp only [execOp, CO.oper, ev_ok (ds := []) hkn hx']; rfl)
  · rename_i f a c hx
    simp only [Option.some.injEq] at h; subst h
    have hx' := evA_ok hk hx
    simp only [sh] at hx' ⊢
    exact y_yield hw (fun tm W hkn hi => by simp only [execOp, CO.oper, ev_ok (ds := []) hkn hx']; rfl)
  · cases h
def yFunc (t : Tr) (f : Fn) (a c : Array Operand) : Option AV :=
  match f, evAL t a.toList, evAL t c.toList with
  | .func f, some us, some vs => some (.fn f us vs)
  | _, _, _ => none
theorem yFunc_ok {f : Fn} {a c : Array Operand} (h : yFunc t f a c = some v) : YS w0 t H (.makeFunc f a c) ty v := by
  intro ρ n s hf o g hk hg hw
  unfold yFunc at h
  split at h
  · rename_i f us vs h1 h2
    simp only [Option.some.injEq] at h; subst h
    refine y_yield hw (fun tm W hkn hi => ?_)
    have e1 : a.map (Act.eval ⟨tm, []⟩) = (shL ρ us).toArray := by rw [← evs_ok (ds := []) hkn (evAL_ok hk h1), ← List.map_toArray]
    have e2 : c.map (Act.eval ⟨tm, []⟩) = (shL ρ vs).toArray := by rw [← evs_ok (ds := []) hkn (evAL_ok hk h2), ← List.map_toArray]
    simp only [execOp, CO.oper, Instr.makeFunc, e1, e2, sh]; rfl
  · cases h
def yIdxA (t : Tr) (tt : TypeId) (x y : Operand) : Option AV :=
  match evA t x, natOf (evA t y) with
  | some (.sli k o len kn c), some m => match slT.at tt with
    | some kk => bif Nat.blt m len then some (.ptr k (o + m * kk)) else none
    | none => none
  | some (.ptr k o), some m => match arT.at tt with
    | some (n, kk) => bif Nat.blt m n then some (.ptr k (o + m * kk)) else none
    | none => none
  | some (.glob k o), some m => match arT.at tt with
    | some (n, kk) => bif Nat.blt m n then some (.glob k (o + m * kk)) else none
    | none => none
  | _, _ => none
theorem yIdxA_ok (h : yIdxA t tt x y = some v) : YS w0 t H (.indexAddr tt x y) ty v := by
  intro ρ n s hf o g hk hg hw
  unfold yIdxA at h
  split at h
  · rename_i k i len kn c m hx hy
    obtain ⟨ki, hy'⟩ := natOf_ok hk hy
    have hx' := evA_ok hk hx
    simp only [sh] at hx'
    split at h
    · rename_i kk hs
      rw [slT_ok] at hs
      cases hb : Nat.blt m len with
      | false => rw [hb] at h; cases h
      | true =>
        rw [hb] at h; simp only [cond_true, Option.some.injEq] at h; subst h
        rw [Nat.blt_eq] at hb
        simp only [sh]
        exact y_index hx' hy' hs rfl rfl hb hw
    · cases h
  · rename_i k i m hx hy
    obtain ⟨ki, hy'⟩ := natOf_ok hk hy
    have hx' := evA_ok hk hx
    simp only [sh] at hx'
    split at h
    · rename_i q kk hs
      obtain ⟨e, j, hu, hj, hjs, h1⟩ := ar_ty hs
      cases hb : Nat.blt m q with
      | false => rw [hb] at h; cases h
      | true =>
        rw [hb] at h; simp only [cond_true, Option.some.injEq] at h; subst h
        rw [Nat.blt_eq] at hb
        simp only [sh]
        refine y_yield hw (fun tm W hkn hi => ?_)
        simp only [execOp, CO.oper, ev_ok (ds := []) hkn hx', ev_ok (ds := []) hkn hy', Instr.indexAt, asIntOf, pure_bind, Sem.run_bind, run_underlying hu, Result.andThen_ok, Instr.sureAddr]
        have h2 : (0 : Int) ≤ (m : Int) ∧ (m : Int) < (q : Int) := by omega
        simp [h2, Sem.run_bind, sizeOf_run hj, hjs, add0]
    · cases h
  · rename_i k i m hx hy
    obtain ⟨ki, hy'⟩ := natOf_ok hk hy
    have hx' := evA_ok hk hx
    simp only [sh] at hx'
    split at h
    · rename_i q kk hs
      obtain ⟨e, j, hu, hj, hjs, h1⟩ := ar_ty hs
      cases hb : Nat.blt m q with
      | false => rw [hb] at h; cases h
      | true =>
        rw [hb] at h; simp only [cond_true, Option.some.injEq] at h; subst h
        rw [Nat.blt_eq] at hb
        simp only [sh]
        refine y_yield hw (fun tm W hkn hi => ?_)
        simp only [execOp, CO.oper, ev_ok (ds := []) hkn hx', ev_ok (ds := []) hkn hy', Instr.indexAt, asIntOf, pure_bind, Sem.run_bind, run_underlying hu, Result.andThen_ok, Instr.sureAddr]
        have h2 : (0 : Int) ≤ (m : Int) ∧ (m : Int) < (q : Int) := by omega
        simp [h2, Sem.run_bind, sizeOf_run hj, hjs, add0]
    · cases h
  · cases h
def arE : List (Nat × Nat) := [(277, 9), (285, 284), (121, 3)]
theorem arE_all : arE.all (fun (t, e) => match Tryz.prog.underlying t, Tryz.prog.info? e with
    | some (.array n e'), some i => Nat.beq e' e && Nat.beq i.size 1 && (match arT.at t with | some (n', _) => Nat.beq n n' | none => false)
    | _, _ => false) = true := by decide +kernel
def yIdx (t : Tr) (tt : TypeId) (x y : Operand) : Option AV :=
  match evA t x, natOf (evA t y) with
  | some (.str xs), some m => bif strTy tt then match xs[m]? with
      | some b => some (.int .u8 b.toNat)
      | none => none
    else none
  | some (.agg cs), some m => match lkG arE tt, arT.at tt with
    | some e, some (n, _) => bif Nat.blt m n then partV e cs m else none
    | _, _ => none
  | _, _ => none
theorem yIdx_ok (h : yIdx t tt x y = some v) : YS w0 t H (.index tt x y) ty v := by
  intro ρ n s hf o g hk hg hw
  unfold yIdx at h
  split at h
  · rename_i xs m hx hy
    obtain ⟨ki, hy'⟩ := natOf_ok hk hy
    have hx' := evA_ok hk hx
    simp only [sh] at hx'
    cases hb : strTy tt with
    | false => rw [hb] at h; cases h
    | true =>
      rw [hb] at h; simp only [cond_true] at h
      split at h
      · rename_i b hb2
        simp only [Option.some.injEq] at h; subst h
        simp only [sh]
        exact y_stridx hx' hy' (strTy_ok hb) rfl hb2 hw
      · cases h
  · rename_i cs m hx hy
    obtain ⟨ki, hy'⟩ := natOf_ok hk hy
    have hx' := evA_ok hk hx
    simp only [sh] at hx'
    split at h
    · rename_i e q _ he hq
      cases hb : Nat.blt m q with
      | false => rw [hb] at h; cases h
      | true =>
        rw [hb] at h; simp only [cond_true] at h
        rw [Nat.blt_eq] at hb
        have hc := List.all_eq_true.1 arE_all _ (lkG_mem he)
        simp only [hq] at hc
        split at hc
        · rename_i n' e' i hu hi'
          simp only [Bool.and_eq_true, Nat.beq_eq] at hc
          obtain ⟨⟨e1, e2⟩, e3⟩ := hc
          subst e1 e3
          refine y_yield hw (fun tm W hkn hi => ?_)
          simp only [execOp, CO.oper, ev_ok (ds := []) hkn hx', ev_ok (ds := []) hkn hy', Instr.index, asIntOf, pure_bind, Sem.run_bind, run_underlying hu, Result.andThen_ok]
          have h2 : (0 : Int) ≤ (m : Int) ∧ (m : Int) < (n' : Int) := by omega
          simp [h2, Sem.run_bind, sizeOf_run hi', e2, partV_ok (ρ := ρ) h W]
        · cases hc
    · cases h
  · cases h
end
end
end Go.Proofs.YtpmjbobgglgnaaaGreatDoor
