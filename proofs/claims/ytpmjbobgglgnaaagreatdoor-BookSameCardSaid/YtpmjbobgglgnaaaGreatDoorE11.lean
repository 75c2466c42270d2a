/- Closed calls that the kernel carries out: the table of all operations. -/
import Derived.Test.YtpmjbobgglgnaaaGreatDoorE10
namespace Go.Proofs.YtpmjbobgglgnaaaGreatDoor
noncomputable section
open Go.RowKit
set_option linter.unusedVariables false
set_option linter.unusedSimpArgs false
section
variable {w0 : World} {n : Nat} {t : Tr} {H H' : AH} {nx nx' : Nat} {ρ : Rho} {s : Sl} {h : List Bx} {hf : List Bx} {o : Option Tmp} {dd : Option Tmp} {g : Option (Option Tmp × Bool)} {ty tt tu tx : TypeId} {x y z : Operand} {v : AV} {Q : AQ} {rest : List CO} {d : Nat}
def yLen (t : Tr) (tt : TypeId) (x : Operand) : Option AV :=
  match evA t x with
  | some (.str xs) => bif strTy tt then some (.int .i64 xs.length) else none
  | some u => bif isSl u && (slT.at tt).isSome then some (.int .i64 (slOf ρ0 u).2.1) else none
  | none => none
theorem yLen_ok (h : yLen t tt x = some v) : YS w0 t H (.call ⟨.builtin .len, #[x], #[tt]⟩) ty v := by
  intro ρ n s hf o g hk hg hw
  unfold yLen at h
  split at h
  · rename_i xs hx
    cases hb : strTy tt with
    | false => rw [hb] at h; cases h
    | true =>
      rw [hb] at h; simp only [cond_true, Option.some.injEq] at h; subst h
      have hx' := evA_ok hk hx
      simp only [sh] at hx' ⊢
      exact y_lenL hx' (strTy_ok hb) hw
  · rename_i u hne hx
    cases hb : (isSl u && (slT.at tt).isSome) with
    | false => rw [hb] at h; cases h
    | true =>
      rw [hb] at h; simp only [cond_true, Option.some.injEq] at h; subst h
      simp only [Bool.and_eq_true, Option.isSome_iff_exists] at hb
      obtain ⟨b1, kk, b2⟩ := hb
      rw [slT_ok] at b2
      have hx' := evA_ok hk hx
      rw [isSl_sh (ρ := ρ) b1, slOf_len ρ b1] at hx'
      simp only [sh]
      exact y_len hx' b2 hw
  · cases h
def yMin (t : Tr) (mx : Bool) (x y : Operand) : Option AV :=
  match evA t x, evA t y with
  | some (.int k a), some (.int l b) => bif ikEq k l then some (.int k (bif mx then max a b else min a b)) else none
  | _, _ => none
theorem yMin_ok {tys : Array TypeId} (h : yMin t false x y = some v) : YS w0 t H (.call ⟨.builtin .min, #[x, y], tys⟩) ty v := by
  intro ρ n s hf o g hk hg hw
  unfold yMin at h
  split at h
  · rename_i k a l b hx hy
    cases hb : ikEq k l with
    | false => rw [hb] at h; cases h
    | true =>
      rw [hb] at h; simp only [cond_true, cond_false, Option.some.injEq] at h; subst h
      have : k = l := ikEq_iff.1 hb
      subst this
      have hx' := evA_ok hk hx
      have hy' := evA_ok hk hy
      simp only [sh] at hx' hy' ⊢
      exact y_min hx' hy' hw
  · cases h
theorem yMax_ok {tys : Array TypeId} (h : yMin t true x y = some v) : YS w0 t H (.call ⟨.builtin .max, #[x, y], tys⟩) ty v := by
  intro ρ n s hf o g hk hg hw
  unfold yMin at h
  split at h
  · rename_i k a l b hx hy
    cases hb : ikEq k l with
    | false => rw [hb] at h; cases h
    | true =>
      rw [hb] at h; simp only [cond_true, Option.some.injEq] at h; subst h
      have : k = l := ikEq_iff.1 hb
      subst this
      have hx' := evA_ok hk hx
      have hy' := evA_ok hk hy
      simp only [sh] at hx' hy' ⊢
      exact y_max hx' hy' hw
  · cases h
def yMove (t : Tr) (x : Operand) : Option AV := evA t x
def yPick (t : Tr) (x y z : Operand) : Option AV :=
  match evA t x, evA t y, evA t z with
  | some (.bool b), some v, some u => some (bif b then v else u)
  | _, _, _ => none
theorem yPick_ok (h : yPick t x y z = some v) : YS w0 t H (.pick x y z) ty v := by
  intro ρ n s hf o g hk hg hw
  unfold yPick at h
  split at h
  · rename_i b v' u hx hy hz
    simp only [Option.some.injEq] at h; subst h
    have hx' := evA_ok hk hx
    simp only [sh] at hx'
    have := y_pick (P := Tryz.prog) (w0 := w0) (n := n) (h := hl ρ H ++ hf) (o := o) (ty := ty) hx' (evA_ok hk hy) (evA_ok hk hz) hw
    cases b <;> simpa using this
  · cases h
/-- append of nothing to nothing. -/
def yApp0 (t : Tr) (x y : Operand) (tt tx : TypeId) : Option AV :=
  match evA t x, evA t y, apT.at tt, apT.at tx with
  | some .nils, some w, some _, some _ => bif isSl w && Nat.beq (slOf ρ0 w).2.1 0 then some .nils else none
  | some (.sli k o len true c), some w, some _, some _ => bif isSl w && Nat.beq (slOf ρ0 w).2.1 0 && Nat.ble len c then some (.sli k o len true c) else none
  | _, _, _, _ => none
theorem yApp0_ok (h : yApp0 t x y tt tx = some v) : YS w0 t H (.call ⟨.builtin .append, #[x, y], #[tt, tx]⟩) ty v := by
  have key : ∀ (u w : AV) (p q : Nat × Nat × Nat), evA t x = some u → evA t y = some w → apT.at tt = some p → apT.at tx = some q → isSl w = true → (slOf ρ0 w).2.1 = 0 →
      (∀ ρ : Rho, ∃ B len cB, sh ρ u = .slice B len cB ∧ len ≤ cB) → YS w0 t H (.call ⟨.builtin .append, #[x, y], #[tt, tx]⟩) ty u := by
    intro u w p q hx hy hp hq h1 h2 hu ρ n s hf o g hk hg hw
    obtain ⟨e, k, b⟩ := p
    obtain ⟨e', k', b'⟩ := q
    obtain ⟨i, z, A⟩ := ap_ty hp
    obtain ⟨i', z', A'⟩ := ap_ty hq
    have hx' := evA_ok hk hx
    have hy' := evA_ok hk hy
    rw [isSl_sh (ρ := ρ) h1, slOf_len ρ h1, h2] at hy'
    obtain ⟨B, len, cB, eu, hle⟩ := hu ρ
    rw [eu] at hx' ⊢
    have hN : RowIn k w0 (hl ρ H ++ hf) (slOf ρ w).1 0 [] := ⟨by simp, fun hn => absurd rfl hn, rfl, fun W hi j v hj => by simp at hj⟩
    refine y_yield hw (fun tm W hkn hi => ?_)
    have hsrc := hN.src (c := (slOf ρ w).2.2) hi A'.u A.hk
    rw [← A.ik] at hsrc
    have he : (Builtin.append_ #[tt, tx] ty #[.slice B len cB, .slice (slOf ρ w).1 0 (slOf ρ w).2.2]).run Tryz.prog W = .ok (.slice B len cB) W := by
      cases B with
      | none => simp [Builtin.append_, run_underlying A.u, run_underlying A'.u, sizeOf, typeInfo, A.hi, hsrc.len, hsrc.cells, hle]
      | some a => simp [Builtin.append_, run_underlying A.u, run_underlying A'.u, sizeOf, typeInfo, A.hi, hsrc.len, hsrc.cells, hle, storeCells]
    simp only [execOp, CO.oper, resolve, List.map_toArray, List.map_cons, List.map_nil, ev_ok (ds := []) hkn hx', ev_ok (ds := []) hkn hy', pure_bind, invoke, builtin, Sem.run_bind, he]
    rfl
  unfold yApp0 at h
  split at h
  · rename_i w p q hx hy hp hq
    cases hb : (isSl w && Nat.beq (slOf ρ0 w).2.1 0) with
    | false => rw [hb] at h; cases h
    | true =>
      rw [hb] at h; simp only [cond_true, Option.some.injEq] at h; subst h
      simp only [Bool.and_eq_true, Nat.beq_eq] at hb
      exact key _ w p q hx hy hp hq hb.1 hb.2 (fun ρ => ⟨_, _, _, rfl, Nat.le_refl _⟩)
  · rename_i k i len c w p q hx hy hp hq
    cases hb : (isSl w && Nat.beq (slOf ρ0 w).2.1 0 && Nat.ble len c) with
    | false => rw [hb] at h; cases h
    | true =>
      rw [hb] at h; simp only [cond_true, Option.some.injEq] at h; subst h
      simp only [Bool.and_eq_true, Nat.beq_eq, Nat.ble_eq] at hb
      exact key _ w p q hx hy hp hq hb.1.1 hb.1.2 (fun ρ => ⟨some ⟨(ρ k).g, i, none⟩, len, c, by simp only [sh, if_true], hb.2⟩)
  · cases h
def yBlt (t : Tr) (b : Builtin) (os : Array Operand) (tys : Array TypeId) : Option AV :=
  match b, os, tys with
  | .len, ⟨[x]⟩, ⟨[tt]⟩ => yLen t tt x
  | .min, ⟨[x, y]⟩, _ => yMin t false x y
  | .max, ⟨[x, y]⟩, _ => yMin t true x y
  | .append, ⟨[x, y]⟩, ⟨[tt, tx]⟩ => yApp0 t x y tt tx
  | _, _, _ => none
theorem yBlt_ok {b : Builtin} {os : Array Operand} {tys : Array TypeId} (h : yBlt t b os tys = some v) : YS w0 t H (.call ⟨.builtin b, os, tys⟩) ty v := by
  unfold yBlt at h
  split at h
  · exact yLen_ok h
  · exact yMin_ok h
  · exact yMax_ok h
  · exact yApp0_ok h
  · cases h
def yCallB (t : Tr) (c : Call) : Option AV := match c with
  | ⟨.builtin b, os, tys⟩ => yBlt t b os tys
  | _ => none
def nCallB (t : Tr) (H : AH) (nx : Nat) (c : Call) : Option (AV × AH × Nat) := match c with
  | ⟨.builtin .append, ⟨[x, y]⟩, ⟨[tt, tx]⟩⟩ => nAppend t H nx x y tt tx
  | _ => none
def sCallB (t : Tr) (H : AH) (c : Call) : Option AH := match c with
  | ⟨.builtin .clear, ⟨[x]⟩, ⟨[tt]⟩⟩ => sClear t H x tt
  | _ => none
def evY (P : Program) (t : Tr) (H : AH) (op : Op) (_ty : TypeId) : Option AV :=
  Op.rec (motive := fun _ => Option AV) (fun x => evA t x) (fun x => evA t x) (fun x y z => yPick t x y z) (fun _ => none) (fun _ _ => none) (fun tt ps => yBuild t tt ps) (fun _ _ _ => none) (fun _ _ _ _ => none) (fun tt x => yLoad t H tt x) (fun _ _ _ => none) (fun _ => none) (fun _ => none) (fun x => yNil t x) (fun op tt x y _ => yBin P t op tt x y) (fun op _ x => yUn t op x) (fun tt tu x => yConv t H tt tu x) (fun _ _ => none) (fun _ _ => none) (fun f a c => yFunc t f a c) (fun _ _ => none) (fun _ _ => none) (fun _ _ _ => none) (fun tt x lo hi mx => ySlc t H tt x lo hi mx) (fun tt x f => yField t tt x f) (fun tt x f => yFieldV t tt x f) (fun tt x y => yIdxA t tt x y) (fun tt x y => yIdx t tt x y) (fun _ _ _ _ => none) (fun _ _ _ _ => none) (fun _ _ _ => none) (fun _ _ _ _ => none) (fun _ _ => none) (fun _ _ => none) (fun _ => none) (fun _ _ _ _ => none) (fun x k => yExtract t x k) (fun c => yCallB t c) (fun _ => none) (fun _ => none) (fun _ => none) (fun _ _ => none) (fun _ _ _ => none) (fun _ _ => none) op
def nBuildA (t : Tr) (H : AH) (nx : Nat) (tt : TypeId) (len : Nat) (ps : Array (Nat × Operand)) : Option (AV × AH × Nat) := match len, ps with
  | 0, ⟨[]⟩ => nBuild0 H nx tt
  | len, ps => nBuildS t H nx tt len ps
def evN (t : Tr) (H : AH) (nx : Nat) (op : Op) (_ty : TypeId) : Option (AV × AH × Nat) :=
  Op.rec (motive := fun _ => Option (AV × AH × Nat)) (fun _ => none) (fun _ => none) (fun _ _ _ => none) (fun tt => nAlloc H nx tt) (fun tt x => nBox t H nx tt x) (fun _ _ => none) (fun tt len ps => nBuildA t H nx tt len ps) (fun _ _ _ _ => none) (fun _ _ => none) (fun _ _ _ => none) (fun _ => none) (fun _ => none) (fun _ => none) (fun _ _ _ _ _ => none) (fun _ _ _ => none) (fun tt tu x => nBytes t H nx tt tu x) (fun _ _ => none) (fun _ _ => none) (fun _ _ _ => none) (fun _ _ => none) (fun _ _ => none) (fun _ _ _ => none) (fun tt x lo hi mx => nEmp t H nx tt x lo hi mx) (fun _ _ _ => none) (fun _ _ _ => none) (fun _ _ _ => none) (fun _ _ _ => none) (fun _ _ _ _ => none) (fun _ _ _ _ => none) (fun _ _ _ => none) (fun _ _ _ _ => none) (fun _ _ => none) (fun _ _ => none) (fun _ => none) (fun _ _ _ _ => none) (fun _ _ => none) (fun c => nCallB t H nx c) (fun _ => none) (fun _ => none) (fun _ => none) (fun _ _ => none) (fun _ _ _ => none) (fun _ _ => none) op
def evS (t : Tr) (H : AH) (_nx : Nat) (op : Op) : Option AH :=
  Op.rec (motive := fun _ => Option AH) (fun _ => none) (fun _ => none) (fun _ _ _ => none) (fun _ => none) (fun _ _ => none) (fun _ _ => none) (fun _ _ _ => none) (fun _ _ _ _ => none) (fun _ _ => none) (fun tt x y => sStore t H tt x y) (fun _ => none) (fun _ => none) (fun _ => none) (fun _ _ _ _ _ => none) (fun _ _ _ => none) (fun _ _ _ => none) (fun _ _ => none) (fun _ _ => none) (fun _ _ _ => none) (fun _ _ => none) (fun _ _ => none) (fun _ _ _ => none) (fun _ _ _ _ _ => none) (fun _ _ _ => none) (fun _ _ _ => none) (fun _ _ _ => none) (fun _ _ _ => none) (fun _ _ _ _ => none) (fun _ _ _ _ => none) (fun _ _ _ => none) (fun _ _ _ _ => none) (fun _ _ => none) (fun _ _ => none) (fun _ => none) (fun _ _ _ _ => none) (fun _ _ => none) (fun c => sCallB t H c) (fun _ => none) (fun _ => none) (fun _ => none) (fun _ _ => none) (fun _ _ _ => none) (fun _ _ => none) op
/-- The results. -/
def resV (t : Tr) (H : AH) : List ResultVar → Option (List AV)
  | [] => some []
  | .tmp k :: rs => match t.at k, resV t H rs with
    | some v, some vs => some (v :: vs)
    | _, _ => none
  | .cell k tt :: rs => match t.at k, resV t H rs with
    | some (.ptr b i), some vs => match loadV H tt b i with
      | some v => some (v :: vs)
      | none => none
    | _, _ => none
def evR (t : Tr) (H : AH) (rs : List ResultVar) : Option AV :=
  match resV t H rs with
  | some [v] => some v
  | some vs => some (.tup vs)
  | none => none
theorem resV_ok (hk : Kn ρ t s) : ∀ {rs : List ResultVar} {vs : List AV}, resV t H rs = some vs → RVs s (hl ρ H ++ hf) rs (shL ρ vs)
  | [], _, h => by simp only [resV, Option.some.injEq] at h; subst h; exact .nil
  | .tmp k :: rs, _, h => by
    simp only [resV] at h
    split at h
    · rename_i v vs h1 h2
      simp only [Option.some.injEq] at h; subst h
      exact .cons (.tmp (hk _ _ h1)) (resV_ok hk h2)
    · cases h
  | .cell k tt :: rs, _, h => by
    simp only [resV] at h
    split at h
    · rename_i b i vs h1 h2
      split at h
      · rename_i v hv
        simp only [Option.some.injEq] at h; subst h
        refine .cons ?_ (resV_ok hk h2)
        have hx := hk _ _ h1
        simp only [sh] at hx
        unfold loadV at hv
        cases hb : Nat.blt tt 416 with
        | false => rw [hb] at hv; cases hv
        | true =>
          rw [hb] at hv; simp only [cond_true] at hv
          split at hv
          · rename_i bk hfnd
            have hm := bx_mem (ρ := ρ) (hf := hf) hfnd
            split at hv
            · rename_i hs
              exact .cell hx hm hb (by rw [← szT_ok]; exact hs) (by rw [nth_eq]; exact nthV_ok _ hv)
            · cases hv
            · rename_i q hs
              split at hv
              · rename_i l hl
                simp only [Option.some.injEq] at hv; subst hv
                rw [show sh ρ (.agg l) = .agg (shL ρ l).toArray from by simp [sh]]
                exact .cellA hx hm hb (by rw [← szT_ok]; exact hs) (nthsV_ok _ hl)
              · cases hv
          · cases hv
      · cases h
    · cases h
theorem yCallB_ok {c : Call} (h : yCallB t c = some v) : YS w0 t H (.call c) ty v := by
  unfold yCallB at h
  split at h
  · exact yBlt_ok h
  · cases h
theorem nBuildA_ok {len : Nat} {ps : Array (Nat × Operand)} (h : nBuildA t H nx tt len ps = some (v, H', nx')) : NS t H nx (.buildSlice tt len ps) ty v H' nx' w0 := by
  unfold nBuildA at h
  split at h
  · exact nBuild0_ok h
  · exact nBuildS_ok h
theorem nCallB_ok {c : Call} (h : nCallB t H nx c = some (v, H', nx')) : NS t H nx (.call c) ty v H' nx' w0 := by
  unfold nCallB at h
  split at h
  · exact nAppend_ok h
  · cases h
theorem sCallB_ok {c : Call} (h : sCallB t H c = some H') : SS t H nx (.call c) H' w0 := by
  unfold sCallB at h
  split at h
  · exact sClear_ok h
  · cases h
/-- The functions whose deferred call does nothing at the end: parse.Formula, and its closure. -/
def evE (P : Program) (X : Nat → List AV → Option (AV × Nat)) : Ev := ⟨evY P, evN, evS, evR, X, fun f => Nat.beq f 152, fun f => Nat.beq f 189⟩
theorem evE_ok {X : Nat → List AV → Option (AV × Nat)} (hW : Words w0) (hX : XOk Tryz.prog w0 X) (hD : DOk Tryz.prog 189) : EvOk Tryz.prog w0 (evE Tryz.prog X) where
  x := hX
  d := fun fd h => by
    have : fd = 189 := Nat.eq_of_beq_eq_true h
    rw [this]; exact hD
  y := by
    intro t H op ty v h
    change evY Tryz.prog t H op ty = some v at h
    cases op
    case move => exact fun ρ n s hf o g hk hg hw => y_move (evA_ok hk h) hw
    case assign => exact fun ρ n s hf o g hk hg hw => y_assign (evA_ok hk h) hw
    case pick => exact yPick_ok h
    case alloc => cases h
    case box => cases h
    case build => exact yBuild_ok h
    case buildSlice => cases h
    case insert => cases h
    case load => exact yLoad_ok hW h
    case store => cases h
    case ready => cases h
    case waits => cases h
    case nilCheck => exact yNil_ok h
    case binOp => exact yBin_ok h
    case unOp => exact yUn_ok h
    case convert => exact yConv_ok h
    case sliceToArrayPointer => cases h
    case makeInterface => cases h
    case makeFunc => exact yFunc_ok h
    case makeMap => cases h
    case makeChan => cases h
    case makeSlice => cases h
    case slice => exact ySlc_ok h
    case fieldAddr => exact yField_ok h
    case field => exact yFieldV_ok h
    case indexAddr => exact yIdxA_ok h
    case index => exact yIdx_ok h
    case lookup => cases h
    case mapUpdate => cases h
    case mapEntry => cases h
    case entryStore => cases h
    case range => cases h
    case next => cases h
    case entry => cases h
    case typeAssert => cases h
    case extract => exact yExtract_ok h
    case call => exact yCallB_ok h
    case go => cases h
    case defer => cases h
    case panic => cases h
    case send => cases h
    case recv => cases h
    case select => cases h
  n := by
    intro t H nx op ty v H' nx' h
    change evN t H nx op ty = some (v, H', nx') at h
    cases op
    case move => cases h
    case assign => cases h
    case pick => cases h
    case alloc => exact nAlloc_ok h
    case box => exact nBox_ok h
    case build => cases h
    case buildSlice => exact nBuildA_ok h
    case insert => cases h
    case load => cases h
    case store => cases h
    case ready => cases h
    case waits => cases h
    case nilCheck => cases h
    case binOp => cases h
    case unOp => cases h
    case convert => exact nBytes_ok h
    case sliceToArrayPointer => cases h
    case makeInterface => cases h
    case makeFunc => cases h
    case makeMap => cases h
    case makeChan => cases h
    case makeSlice => cases h
    case slice => exact nEmp_ok h
    case fieldAddr => cases h
    case field => cases h
    case indexAddr => cases h
    case index => cases h
    case lookup => cases h
    case mapUpdate => cases h
    case mapEntry => cases h
    case entryStore => cases h
    case range => cases h
    case next => cases h
    case entry => cases h
    case typeAssert => cases h
    case extract => cases h
    case call => exact nCallB_ok h
    case go => cases h
    case defer => cases h
    case panic => cases h
    case send => cases h
    case recv => cases h
    case select => cases h
  s := by
    intro t H nx op H' h
    change evS t H nx op = some H' at h
    cases op
    case move => cases h
    case assign => cases h
    case pick => cases h
    case alloc => cases h
    case box => cases h
    case build => cases h
    case buildSlice => cases h
    case insert => cases h
    case load => cases h
    case store => exact sStore_ok h
    case ready => cases h
    case waits => cases h
    case nilCheck => cases h
    case binOp => cases h
    case unOp => cases h
    case convert => cases h
    case sliceToArrayPointer => cases h
    case makeInterface => cases h
    case makeFunc => cases h
    case makeMap => cases h
    case makeChan => cases h
    case makeSlice => cases h
    case slice => cases h
    case fieldAddr => cases h
    case field => cases h
    case indexAddr => cases h
    case index => cases h
    case lookup => cases h
    case mapUpdate => cases h
    case mapEntry => cases h
    case entryStore => cases h
    case range => cases h
    case next => cases h
    case entry => cases h
    case typeAssert => cases h
    case extract => cases h
    case call => exact sCallB_ok h
    case go => cases h
    case defer => cases h
    case panic => cases h
    case send => cases h
    case recv => cases h
    case select => cases h
  r := by
    intro t H rs v h
    change evR t H rs = some v at h
    intro ρ n s hf fn e Φ hk hrs he h' hs hΦ
    unfold evR at h
    split at h
    · rename_i u hu
      simp only [Option.some.injEq] at h; subst h
      have := resV_ok (hf := hf) hk hu
      simp only [shL] at this
      have hr : fn.results = rs.toArray := by rw [← hrs]
      cases this with
      | cons h1 h2 =>
        rename_i r0 rs0
        cases h2
        exact ends1 he hr h1 hs hΦ
    · rename_i vs hvs hne
      simp only [Option.some.injEq] at h; subst h
      have hr : fn.results = rs.toArray := by rw [← hrs]
      have hR := resV_ok (hf := hf) hk hne
      refine endsN he hr hR ?_ hs (by simpa [sh] using hΦ)
      rw [shL_len]
      cases vs with
      | nil => rfl
      | cons a l =>
        cases l with
        | nil => exact absurd rfl (hvs a)
        | cons b l => rw [Bool.eq_false_iff]; simp [Nat.beq_eq]
    · cases h
end
end
end Go.Proofs.YtpmjbobgglgnaaaGreatDoor
