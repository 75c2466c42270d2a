/- Closed calls that the kernel carries out: codes and calls, over what is told of operations. -/
import Derived.Test.YtpmjbobgglgnaaaGreatDoorE1
import Derived.Test.YtpmjbobgglgnaaaGreatDoorD1
import Derived.Scope
namespace Go.Proofs.YtpmjbobgglgnaaaGreatDoor
noncomputable section
open Go.RowKit
set_option linter.unusedVariables false
def wantsA (t : Tr) : Option (Option Tmp × Bool) → Option Bool
  | none => some true
  | some (none, _) => none
  | some (some k, b) => match t.at k with
    | some (.bool x) => some (bif b then x else !x)
    | some .und => some false
    | _ => none
theorem wantsA_ok {ρ : Rho} {t : Tr} {g : Option (Option Tmp × Bool)} {b : Bool} {s : Sl} (hk : Kn ρ t s) (h : wantsA t g = some b) : Wan s g b := by
  rcases g with _ | ⟨_ | k, x⟩
  · simp only [wantsA, Option.some.injEq] at h; subst h; exact wan_free
  · simp [wantsA] at h
  · simp only [wantsA] at h
    split at h
    · rename_i y hy
      have := wan_slot (s := s) (k := k) (b := x) (x := y) (by rw [hk _ _ hy]; simp [sh])
      simp only [Option.some.injEq] at h
      cases x <;> cases y <;> simp at h this <;> subst h <;> exact this
    · rename_i hy
      simp only [Option.some.injEq] at h
      subst h
      intro n tm hk'
      have : tm[k]? = some undef := hk'.2 k undef (by rw [hk _ _ hy]; simp [sh])
      simp [wants, this, undef]
    · cases h
/-- Constants. -/
def ofV1 : Value → Option AV
  | .bool b => some (.bool b)
  | .int k n => some (.int k n)
  | .string b => some (.str b.data.toList)
  | .pointer none => some .nilp
  | .slice none 0 0 => some .nils
  | .nilFunc => some .nilf
  | .nilIface => some .nili
  | _ => none
def ofVs : List Value → Option (List AV)
  | [] => some []
  | v :: vs => match ofV1 v, ofVs vs with
    | some a, some us => some (a :: us)
    | _, _ => none
def ofV : Value → Option AV
  | .agg cs => match ofVs cs.toList with
    | some us => some (.agg us)
    | none => none
  | v => ofV1 v
theorem ofV1_ok {ρ : Rho} {v : Value} {a : AV} (h : ofV1 v = some a) : sh ρ a = v := by
  unfold ofV1 at h
  split at h <;> first | (simp only [Option.some.injEq] at h; subst h; simp [sh]) | cases h
theorem ofVs_ok {ρ : Rho} : ∀ {vs : List Value} {us : List AV}, ofVs vs = some us → shL ρ us = vs
  | [], _, h => by simp only [ofVs, Option.some.injEq] at h; subst h; simp [shL]
  | v :: vs, _, h => by
    simp only [ofVs] at h
    split at h
    · rename_i a us h1 h2
      simp only [Option.some.injEq] at h; subst h
      simp [shL, ofV1_ok (ρ := ρ) h1, ofVs_ok (ρ := ρ) h2]
    · cases h
theorem ofV_ok {ρ : Rho} {v : Value} {a : AV} (h : ofV v = some a) : sh ρ a = v := by
  unfold ofV at h
  split at h
  · split at h
    · rename_i cs us h1
      simp only [Option.some.injEq] at h; subst h
      simp [sh, ofVs_ok (ρ := ρ) h1]
    · cases h
  · exact ofV1_ok h
theorem ofV1_bd {v : Value} {a : AV} (h : ofV1 v = some a) (c : Nat) : bd c a = true := by
  unfold ofV1 at h
  split at h <;> first | (simp only [Option.some.injEq] at h; subst h; rfl) | cases h
theorem ofVs_bd (c : Nat) : ∀ {vs : List Value} {us : List AV}, ofVs vs = some us → bdL c us = true
  | [], _, h => by simp only [ofVs, Option.some.injEq] at h; subst h; rfl
  | v :: vs, _, h => by
    simp only [ofVs] at h
    split at h
    · rename_i a us h1 h2
      simp only [Option.some.injEq] at h; subst h
      simp [bdL, ofV1_bd h1 c, ofVs_bd c h2]
    · cases h
theorem ofV_bd {v : Value} {a : AV} (h : ofV v = some a) (c : Nat) : bd c a = true := by
  unfold ofV at h
  split at h
  · split at h
    · rename_i cs us h1
      simp only [Option.some.injEq] at h; subst h
      simp only [bd]; exact ofVs_bd c h1
    · cases h
  · exact ofV1_bd h c
def evA (t : Tr) : Operand → Option AV
  | .tmp i => t.at i
  | .const v => ofV v
  | .global g => some (.glob g 0)
  | .func f => some (.fn f [] [])
theorem evA_ok {ρ : Rho} {t : Tr} {s : Sl} (hk : Kn ρ t s) {o : Operand} {a : AV} (h : evA t o = some a) : ev s o = some (sh ρ a) := by
  cases o with
  | tmp i => simp only [evA] at h; simp [ev, hk _ _ h]
  | const v => simp only [evA] at h; simp [ev, ofV_ok (ρ := ρ) h]
  | global g => simp only [evA, Option.some.injEq] at h; subst h; simp [ev, sh]
  | func f => simp only [evA, Option.some.injEq] at h; subst h; simp [ev, sh, shL]
theorem evA_bd {c : Nat} {t : Tr} {o : Operand} {a : AV} (H : TBd c t) (h : evA t o = some a) : bd c a = true := by
  cases o with
  | tmp i => exact H i a h
  | const v => exact ofV_bd h c
  | global g => simp only [evA, Option.some.injEq] at h; subst h; rfl
  | func f => simp only [evA, Option.some.injEq] at h; subst h; rfl
def evAL (t : Tr) : List Operand → Option (List AV)
  | [] => some []
  | o :: os => match evA t o, evAL t os with
    | some v, some vs => some (v :: vs)
    | _, _ => none
theorem evAL_ok {ρ : Rho} {t : Tr} {s : Sl} (hk : Kn ρ t s) : ∀ {os : List Operand} {us : List AV}, evAL t os = some us → evs s os = some (shL ρ us)
  | [], _, h => by simp only [evAL, Option.some.injEq] at h; subst h; simp [evs, shL]
  | o :: os, _, h => by
    simp only [evAL] at h
    split at h
    · rename_i v vs h1 h2
      simp only [Option.some.injEq] at h; subst h
      simp [evs, evA_ok hk h1, evAL_ok hk h2, shL]
    · cases h
theorem evAL_bd {c : Nat} {t : Tr} (H : TBd c t) : ∀ {os : List Operand} {us : List AV}, evAL t os = some us → bdL c us = true
  | [], _, h => by simp only [evAL, Option.some.injEq] at h; subst h; rfl
  | o :: os, _, h => by
    simp only [evAL] at h
    split at h
    · rename_i v vs h1 h2
      simp only [Option.some.injEq] at h; subst h
      simp [bdL, evA_bd H h1, evAL_bd H h2]
    · cases h
theorem bdL_app {c : Nat} : ∀ {a b : List AV}, bdL c a = true → bdL c b = true → bdL c (a ++ b) = true
  | [], _, _, h => h
  | x :: a, b, h1, h2 => by simp [bdL] at h1 ⊢; exact ⟨h1.1, bdL_app h1.2 h2⟩

mutual
def rn (π : Nat → Nat) : AV → AV
  | .ptr k o => .ptr (π k) o
  | .sli k o len kn c => .sli (π k) o len kn c
  | .emp k => .emp (π k)
  | .fn f a c => .fn f (rnL π a) (rnL π c)
  | .iface t v => .iface t (rn π v)
  | .agg cs => .agg (rnL π cs)
  | .tup vs => .tup (rnL π vs)
  | v => v
def rnL (π : Nat → Nat) : List AV → List AV
  | [] => []
  | v :: vs => rn π v :: rnL π vs
end
mutual
theorem sh_rn (ρ : Rho) (π : Nat → Nat) : ∀ v : AV, sh ρ (rn π v) = sh (fun k => ρ (π k)) v
  | .bool _ => by simp [rn, sh]
  | .int _ _ => by simp [rn, sh]
  | .str _ => by simp [rn, sh]
  | .nilp => by simp [rn, sh]
  | .ptr _ _ => by simp [rn, sh]
  | .glob _ _ => by simp [rn, sh]
  | .nils => by simp [rn, sh]
  | .sli _ _ _ _ _ => by simp [rn, sh]
  | .emp _ => by simp [rn, sh]
  | .fn f a c => by simp [rn, sh, shL_rn ρ π a, shL_rn ρ π c]
  | .nilf => by simp [rn, sh]
  | .nili => by simp [rn, sh]
  | .iface t v => by simp [rn, sh, sh_rn ρ π v]
  | .agg cs => by simp [rn, sh, shL_rn ρ π cs]
  | .tup vs => by simp [rn, sh, shL_rn ρ π vs]
  | .und => by simp [rn, sh]
theorem shL_rn (ρ : Rho) (π : Nat → Nat) : ∀ vs : List AV, shL ρ (rnL π vs) = shL (fun k => ρ (π k)) vs
  | [] => by simp [rnL, shL]
  | v :: vs => by simp [rnL, shL, sh_rn ρ π v, shL_rn ρ π vs]
end
theorem rnL_len (π : Nat → Nat) : ∀ vs : List AV, (rnL π vs).length = vs.length
  | [] => by simp [rnL]
  | v :: vs => by simp [rnL, rnL_len π vs]
mutual
theorem bd_rn (k nx : Nat) : ∀ v : AV, bd k v = true → bd (nx + k) (rn (fun j => nx + j) v) = true
  | .bool _, _ => by simp [rn, bd]
  | .int _ _, _ => by simp [rn, bd]
  | .str _, _ => by simp [rn, bd]
  | .nilp, _ => by simp [rn, bd]
  | .ptr _ _, h => by simp [rn, bd, Nat.blt_eq] at h ⊢; omega
  | .glob _ _, _ => by simp [rn, bd]
  | .nils, _ => by simp [rn, bd]
  | .sli _ _ _ _ _, h => by simp [rn, bd, Nat.blt_eq] at h ⊢; omega
  | .emp _, h => by simp [rn, bd, Nat.blt_eq] at h ⊢; omega
  | .fn f a c, h => by simp [bd] at h; simp [rn, bd, bdL_rn k nx a h.1, bdL_rn k nx c h.2]
  | .nilf, _ => by simp [rn, bd]
  | .nili, _ => by simp [rn, bd]
  | .iface t v, h => by simp [bd] at h; simp [rn, bd, bd_rn k nx v h]
  | .agg cs, h => by simp [bd] at h; simp [rn, bd, bdL_rn k nx cs h]
  | .tup vs, h => by simp [bd] at h; simp [rn, bd, bdL_rn k nx vs h]
  | .und, _ => by simp [rn, bd]
theorem bdL_rn (k nx : Nat) : ∀ vs : List AV, bdL k vs = true → bdL (nx + k) (rnL (fun j => nx + j) vs) = true
  | [], _ => by simp [rnL, bdL]
  | v :: vs, h => by simp [bdL] at h; simp [rnL, bdL, bd_rn k nx v h.1, bdL_rn k nx vs h.2]
end
structure ES where
  t : Tr
  H : AH
  nx : Nat
abbrev FCall := Nat → List AV → AH → Nat → Option (AV × AH × Nat)
/-- What is told of operations. -/
structure Ev where
  y : Tr → AH → Op → TypeId → Option AV
  n : Tr → AH → Nat → Op → TypeId → Option (AV × AH × Nat)
  s : Tr → AH → Nat → Op → Option AH
  r : Tr → AH → List ResultVar → Option AV
  x : Nat → List AV → Option (AV × Nat)
  df : Nat → Bool
  d : Nat → Bool
structure EvOk (P : Program) (w0 : World) (E : Ev) : Prop where
  d : ∀ fd, E.d fd = true → DOk P fd
  x : ∀ f args v k, E.x f args = some (v, k) → bd k v = true ∧ ∀ (ρ : Rho) (h : List Bx), Ct P f (shL ρ args).toArray w0 h (fun u h' => (∃ ρ', u = sh ρ' v) ∧ h' = h)
  y : ∀ {t H op ty v}, E.y t H op ty = some v → ∀ (ρ : Rho) (n : Nat) (s : Sl) (hf : List Bx) (o : Option Tmp) (g : Option (Option Tmp × Bool)), Kn ρ t s → Gr ρ H → Wan s g true → Y P w0 n s (hl ρ H ++ hf) ⟨o, op, ty, g⟩ (sh ρ v)
  n : ∀ {t H nx op ty v H' nx'}, E.n t H nx op ty = some (v, H', nx') → TBd nx t → HBd nx H → (nx ≤ nx' ∧ HBd nx' H') ∧
    ∀ (ρ : Rho) (n : Nat) (s : Sl) (hf : List Bx) (g : Option (Option Tmp × Bool)) (d : Nat) (rest : List CO) (Q : AQ), Kn ρ t s → Gr ρ H → Wan s g true → Nat.blt d n = true →
      (∀ ρ', Agree nx ρ ρ' → Gr ρ' H' → AC P w0 n Q rest ((d, sh ρ' v) :: s) (hl ρ' H' ++ hf)) → AC P w0 n Q (⟨some d, op, ty, g⟩ :: rest) s (hl ρ H ++ hf)
  s : ∀ {t H nx op H'}, E.s t H nx op = some H' → TBd nx t → HBd nx H → HBd nx H' ∧
    ∀ (ρ : Rho) (n : Nat) (s : Sl) (hf : List Bx) (g : Option (Option Tmp × Bool)) (ty : TypeId) (rest : List CO) (Q : AQ), Kn ρ t s → Gr ρ H → Wan s g true →
      (Gr ρ H' → AC P w0 n Q rest s (hl ρ H' ++ hf)) → AC P w0 n Q (⟨none, op, ty, g⟩ :: rest) s (hl ρ H ++ hf)
  r : ∀ {t H rs v}, E.r t H rs = some v → ∀ (ρ : Rho) (n : Nat) (s : Sl) (hf : List Bx) (fn : Func) (e : Exit) (Φ : Value → List Bx → Prop), Kn ρ t s → fn.results.toList = rs → e = .ret ∨ e = .normal →
      ∀ h', h'.Sublist (hl ρ H ++ hf) → Φ (sh ρ v) h' → Ends P w0 n fn Φ e s (hl ρ H ++ hf)
/-- Functions that are told by a contract. -/
def XOk (P : Program) (w0 : World) (x : Nat → List AV → Option (AV × Nat)) : Prop := ∀ f args v k, x f args = some (v, k) → bd k v = true ∧ ∀ (ρ : Rho) (h : List Bx), Ct P f (shL ρ args).toArray w0 h (fun u h' => (∃ ρ', u = sh ρ' v) ∧ h' = h)
def putV (n : Nat) (d : Option Tmp) (v : AV) (st : ES) : Option ES :=
  match d with
  | none => some st
  | some d => bif Nat.blt d n && bdR st.nx v then some ⟨st.t.put d v, st.H, st.nx⟩ else none
def isFnC (c : Call) : Option (Operand × Array Operand) := Call.rec (motive := fun _ => Option (Operand × Array Operand)) (fun f os _ => Callee.rec (motive := fun _ => Option (Operand × Array Operand)) (fun x => some (x, os)) (fun _ _ => none) (fun _ => none) f) c
def isFn (op : Op) : Option (Operand × Array Operand) :=
  Op.rec (motive := fun _ => Option (Operand × Array Operand)) (fun _ => none) (fun _ => none) (fun _ _ _ => none) (fun _ => none) (fun _ _ => none) (fun _ _ => none) (fun _ _ _ => none) (fun _ _ _ _ => none) (fun _ _ => none) (fun _ _ _ => none) (fun _ => none) (fun _ => none) (fun _ => none) (fun _ _ _ _ _ => none) (fun _ _ _ => none) (fun _ _ _ => none) (fun _ _ => none) (fun _ _ => none) (fun _ _ _ => none) (fun _ _ => none) (fun _ _ => none) (fun _ _ _ => none) (fun _ _ _ _ _ => none) (fun _ _ _ => none) (fun _ _ _ => none) (fun _ _ _ => none) (fun _ _ _ => none) (fun _ _ _ _ => none) (fun _ _ _ _ => none) (fun _ _ _ => none) (fun _ _ _ _ => none) (fun _ _ => none) (fun _ _ => none) (fun _ => none) (fun _ _ _ _ => none) (fun _ _ => none) (fun c => isFnC c) (fun _ => none) (fun _ => none) (fun _ => none) (fun _ _ => none) (fun _ _ _ => none) (fun _ _ => none) op
theorem isFn_ok {op : Op} {x : Operand} {os : Array Operand} (h : isFn op = some (x, os)) : ∃ tys, op = .call ⟨.value x, os, tys⟩ := by
  cases op
  case call c =>
    obtain ⟨f, os', tys⟩ := c
    cases f with
    | value y =>
      have h' : some (y, os') = some (x, os) := h
      simp only [Option.some.injEq, Prod.mk.injEq] at h'
      obtain ⟨rfl, rfl⟩ := h'
      exact ⟨tys, rfl⟩
    | invoke _ _ => cases h
    | builtin _ => cases h
  all_goals cases h
def stepCO (E : Ev) (call : FCall) (n : Nat) (c : CO) (st : ES) : Option ES :=
  match wantsA st.t c.g with
  | none => none
  | some false => putV n c.dst .und st
  | some true =>
    match isFn c.op with
    | some (x, os) =>
      match evA st.t x, evAL st.t os.toList with
      | some (.fn f a cp), some vs =>
        match call f (a ++ vs ++ cp) st.H st.nx with
        | some (v, H', nx') => putV n c.dst v ⟨st.t, H', nx'⟩
        | none => none
      | _, _ => none
    | none =>
      match c.dst with
      | none => match E.s st.t st.H st.nx c.op with
        | some H' => some ⟨st.t, H', st.nx⟩
        | none => none
      | some d => match E.y st.t st.H c.op c.ty with
        | some v => putV n (some d) v st
        | none => match E.n st.t st.H st.nx c.op c.ty with
          | some (v, H', nx') => putV n (some d) v ⟨st.t, H', nx'⟩
          | none => none
structure ES.Ok (st : ES) : Prop where
  t : TBd st.nx st.t
  H : HBd st.nx st.H
def SCall (P : Program) (w0 : World) (call : FCall) : Prop := ∀ f args H nx v H' nx', call f args H nx = some (v, H', nx') → HBd nx H → bdL nx args = true → (nx ≤ nx' ∧ HBd nx' H' ∧ bd nx' v = true) ∧
  ∀ (ρ : Rho) (hf : List Bx) (Φ : Value → List Bx → Prop), Gr ρ H → (∀ ρ', Agree nx ρ ρ' → Gr ρ' H' → Φ (sh ρ' v) (hl ρ' H' ++ hf)) → Ct P f (shL ρ args).toArray w0 (hl ρ H ++ hf) Φ
theorem ac_call0 {P : Program} {w0 : World} {n : Nat} {Q : AQ} {s : Sl} {h : List Bx} {rest : List CO} {g : Option (Option Tmp × Bool)} {ty : TypeId} {f : FuncId} {x : Operand} {first cap : Array Value} {os : Array Operand} {tys : Array TypeId} {vs av : List Value} {Φ : Value → List Bx → Prop} (hx : ev s x = some (.func (.func f) first cap))
    (ha : evs s os.toList = some vs) (has : first.toList ++ vs ++ cap.toList = av) (hw : Wan s g true)
    (hc : Ct P f av.toArray w0 h Φ) (H : ∀ v h', Φ v h' → AC P w0 n Q rest s h') : AC P w0 n Q (⟨none, .call ⟨.value x, os, tys⟩, ty, g⟩ :: rest) s h := fun D tm W hk hi => .inr ⟨hw n tm hk, by
    simp only [Oper.wp, ev_defers tm D, run_call hk hx ha has hc, Oper.upon]
    refine (hc.2 W hi).mono ?_
    rintro e W1 ⟨v, h', rfl, hi', hΦ⟩
    show Act.defers (Act.put _ _ _) = D ∧ _
    rw [show (CO.oper ⟨none, .call ⟨.value x, os, tys⟩, ty, g⟩).dst = none from rfl, put_eq]
    exact ⟨rfl, _, _, hk, hi', H v h' hΦ⟩⟩
/-- One operation. -/
theorem stepCO_ok {P : Program} {w0 : World} {E : Ev} {call : FCall} (hE : EvOk P w0 E) (hc : SCall P w0 call) {n : Nat} (hn : n ≤ 1023) {c : CO} {st st' : ES} (h : stepCO E call n c st = some st') (ok : st.Ok) :
    (st.nx ≤ st'.nx ∧ st'.Ok) ∧ ∀ (ρ : Rho) (s : Sl) (hf : List Bx) (rest : List CO) (Q : AQ), Kn ρ st.t s → Gr ρ st.H →
      (∀ ρ' s', Agree st.nx ρ ρ' → Gr ρ' st'.H → Kn ρ' st'.t s' → AC P w0 n Q rest s' (hl ρ' st'.H ++ hf)) → AC P w0 n Q (c :: rest) s (hl ρ st.H ++ hf) := by
  obtain ⟨dst, op, ty, g⟩ := c
  unfold stepCO at h
  split at h
  · cases h
  · rename_i hw
    simp only at hw h
    cases dst with
    | none =>
      simp only [putV, Option.some.injEq] at h; subst h
      exact ⟨⟨Nat.le_refl _, ok⟩, fun ρ s hf rest Q hk hg H => ac_off0 (wantsA_ok hk hw) (H ρ s (Agree.refl _ _) hg hk)⟩
    | some d =>
      simp only [putV, bdR_eq] at h
      cases hb : (Nat.blt d n && bd st.nx .und) with
      | false => rw [hb] at h; cases h
      | true =>
        rw [hb] at h; simp only [cond_true, Option.some.injEq] at h; subst h
        simp only [Bool.and_eq_true] at hb
        have hd : d < 1023 := Nat.lt_of_lt_of_le (by have := hb.1; rwa [Nat.blt_eq] at this) hn
        exact ⟨⟨Nat.le_refl _, ⟨ok.t.put hd hb.2, ok.H⟩⟩, fun ρ s hf rest Q hk hg H => ac_y (v := undef) (y_off (wantsA_ok hk hw)) hb.1 (H ρ _ (Agree.refl _ _) hg (by have := hk.put (v := .und) hd; simpa [sh] using this))⟩
  · rename_i hw
    simp only at hw h
    split at h
    · -- a call
      rename_i x os hfn
      obtain ⟨tys, rfl⟩ := isFn_ok hfn
      split at h
      · rename_i f a cp vs h1 h2
        split at h
        · rename_i v H' nx' h3
          have ba := evA_bd ok.t h1
          simp only [bd, Bool.and_eq_true] at ba
          obtain ⟨⟨c1, c2, c3⟩, c4⟩ := hc _ _ _ _ _ _ _ h3 ok.H (bdL_app (bdL_app ba.1 (evAL_bd ok.t h2)) ba.2)
          have sha : ∀ ρ : Rho, (shL ρ a).toArray.toList ++ shL ρ vs ++ (shL ρ cp).toArray.toList = shL ρ (a ++ vs ++ cp) := fun ρ => by simp [shL_map]
          cases dst with
          | none =>
            simp only [putV, Option.some.injEq] at h; subst h
            refine ⟨⟨c1, ⟨ok.t.mono c1, c2⟩⟩, fun ρ s hf rest Q hk hg H => ?_⟩
            refine ac_call0 (Φ := fun v' h' => AC P w0 n Q rest s h') (by have := evA_ok hk h1; simpa [sh] using this) (evAL_ok hk h2) (sha ρ) (wantsA_ok hk hw) (c4 ρ hf _ hg fun ρ' hA hg' => ?_) (fun v' h' hh => hh)
            exact H ρ' s hA hg' (hk.agree hA ok.t)
          | some d =>
            simp only [putV, bdR_eq] at h
            cases hb : (Nat.blt d n && bd nx' v) with
            | false => rw [hb] at h; cases h
            | true =>
              rw [hb] at h; simp only [cond_true, Option.some.injEq] at h; subst h
              simp only [Bool.and_eq_true] at hb
              have hd : d < 1023 := Nat.lt_of_lt_of_le (by have := hb.1; rwa [Nat.blt_eq] at this) hn
              refine ⟨⟨c1, ⟨(ok.t.mono c1).put hd hb.2, c2⟩⟩, fun ρ s hf rest Q hk hg H => ?_⟩
              refine ac_callv (Φ := fun v' h' => AC P w0 n Q rest ((d, v') :: s) h') (by have := evA_ok hk h1; simpa [sh] using this) (evAL_ok hk h2) (sha ρ) (wantsA_ok hk hw) hb.1 (c4 ρ hf _ hg fun ρ' hA hg' => ?_) (fun v' h' hh => hh)
              exact H ρ' _ hA hg' ((hk.agree hA ok.t).put hd)
        · cases h
      · cases h
    · -- others
      split at h
      · split at h
        · rename_i H' h1
          simp only [Option.some.injEq] at h; subst h
          obtain ⟨e1, e2⟩ := hE.s h1 ok.t ok.H
          exact ⟨⟨Nat.le_refl _, ⟨ok.t, e1⟩⟩, fun ρ s hf rest Q hk hg H => e2 ρ n s hf g ty rest Q hk hg (wantsA_ok hk hw) fun hg' => H ρ s (Agree.refl _ _) hg' hk⟩
        · cases h
      · rename_i d
        split at h
        · rename_i v h1
          simp only [putV, bdR_eq] at h
          cases hb : (Nat.blt d n && bd st.nx v) with
          | false => rw [hb] at h; cases h
          | true =>
            rw [hb] at h; simp only [cond_true, Option.some.injEq] at h; subst h
            simp only [Bool.and_eq_true] at hb
            have hd : d < 1023 := Nat.lt_of_lt_of_le (by have := hb.1; rwa [Nat.blt_eq] at this) hn
            exact ⟨⟨Nat.le_refl _, ⟨ok.t.put hd hb.2, ok.H⟩⟩, fun ρ s hf rest Q hk hg H => ac_y (hE.y h1 ρ n s hf (some d) g hk hg (wantsA_ok hk hw)) hb.1 (H ρ _ (Agree.refl _ _) hg (hk.put hd))⟩
        · split at h
          · rename_i v H' nx' h1
            obtain ⟨⟨c1, c2⟩, c3⟩ := hE.n h1 ok.t ok.H
            simp only [putV, bdR_eq] at h
            cases hb : (Nat.blt d n && bd nx' v) with
            | false => rw [hb] at h; cases h
            | true =>
              rw [hb] at h; simp only [cond_true, Option.some.injEq] at h; subst h
              simp only [Bool.and_eq_true] at hb
              have hd : d < 1023 := Nat.lt_of_lt_of_le (by have := hb.1; rwa [Nat.blt_eq] at this) hn
              exact ⟨⟨c1, ⟨(ok.t.mono c1).put hd hb.2, c2⟩⟩, fun ρ s hf rest Q hk hg H => c3 ρ n s hf g d rest Q hk hg (wantsA_ok hk hw) hb.1 fun ρ' hA hg' => H ρ' _ hA hg' ((hk.agree hA ok.t).put hd)⟩
          · cases h
def evOps (E : Ev) (call : FCall) (n : Nat) : List CO → ES → Option ES
  | [], st => some st
  | c :: l, st => match stepCO E call n c st with
    | some st' => evOps E call n l st'
    | none => none
theorem evOps_ok {P : Program} {w0 : World} {E : Ev} {call : FCall} (hE : EvOk P w0 E) (hc : SCall P w0 call) {n : Nat} (hn : n ≤ 1023) : ∀ {l : List CO} {st st' : ES}, evOps E call n l st = some st' → st.Ok →
    (st.nx ≤ st'.nx ∧ st'.Ok) ∧ ∀ (ρ : Rho) (s : Sl) (hf : List Bx) (Q : AQ), Kn ρ st.t s → Gr ρ st.H →
      (∀ ρ' s', Agree st.nx ρ ρ' → Gr ρ' st'.H → Kn ρ' st'.t s' → Q .normal s' (hl ρ' st'.H ++ hf)) → AC P w0 n Q l s (hl ρ st.H ++ hf)
  | [], st, st', h, ok => by
    simp only [evOps, Option.some.injEq] at h; subst h
    exact ⟨⟨Nat.le_refl _, ok⟩, fun ρ s hf Q hk hg H => H ρ s (Agree.refl _ _) hg hk⟩
  | c :: l, st, st', h, ok => by
    simp only [evOps] at h
    split at h
    · rename_i st1 h1
      obtain ⟨⟨a1, a2⟩, a3⟩ := stepCO_ok hE hc hn h1 ok
      obtain ⟨⟨b1, b2⟩, b3⟩ := evOps_ok hE hc hn h a2
      exact ⟨⟨Nat.le_trans a1 b1, b2⟩, fun ρ s hf Q hk hg H => a3 ρ s hf l Q hk hg fun ρ' s' hA hg' hk' => b3 ρ' s' hf Q hk' hg' fun ρ'' s'' hA' hg'' hk'' => H ρ'' s'' (hA.trans hA' a1) hg'' hk''⟩
    · cases h
def putArgs : Nat → List AV → Tr → Tr
  | _, [], t => t
  | i, v :: vs, t => putArgs (i + 1) vs (t.put i v)
abbrev FCode := Code → Nat → ES → Option (Exit × ES)
abbrev FDraw := FCall → Nat → Array Oper → ES → Option ES
/-- Regions that draw. -/
def SDraw (P : Program) (w0 : World) (E : Ev) (dr : FDraw) : Prop := ∀ (call : FCall), SCall P w0 call → ∀ (n : Nat) (id : Nat) (ops : Array Oper) (st st' : ES), n ≤ 1023 → dr call n ops st = some st' → st.Ok →
    (st.nx ≤ st'.nx ∧ st'.Ok) ∧ ∀ (ρ : Rho) (s : Sl) (hf : List Bx) (Q : AQ), (∀ c s s' h, Q (.panic c) s h → Q (.panic c) s' h) → Kn ρ st.t s → Gr ρ st.H →
      (∀ ρ' s', Agree st.nx ρ ρ' → Gr ρ' st'.H → Kn ρ' st'.t s' → Q .normal s' (hl ρ' st'.H ++ hf)) → AW P w0 n (.region id ops true) Q s (hl ρ st.H ++ hf)
def SCode (P : Program) (w0 : World) (ev : FCode) : Prop := ∀ (c : Code) (n : Nat) (st : ES) (e : Exit) (st' : ES), n ≤ 1023 → ev c n st = some (e, st') → st.Ok →
    (st.nx ≤ st'.nx ∧ st'.Ok) ∧ ∀ (ρ : Rho) (s : Sl) (hf : List Bx) (Q : AQ), (∀ c s s' h, Q (.panic c) s h → Q (.panic c) s' h) → Kn ρ st.t s → Gr ρ st.H →
      (∀ ρ' s', Agree st.nx ρ ρ' → Gr ρ' st'.H → Kn ρ' st'.t s' → Q e s' (hl ρ' st'.H ++ hf)) → AW P w0 n c Q s (hl ρ st.H ++ hf)
/-- A function with a deferred call that does nothing at the end. -/
def callFD (E : Ev) (ev : FCode) (fn : Func) (c : Code) (args : List AV) (H : AH) (nx : Nat) : Option (AV × AH × Nat) :=
  match c with
  | .seq a (.seq b (.seq x (.seq (.region _ ops false) y))) =>
    match ops.toList with
    | [o1, o2] => match o2.op, o2.guard, o2.dst with
      | .defer ⟨.value z, ⟨[]⟩, _⟩, none, none =>
        match ev a fn.ntmps ⟨putArgs 0 args .e, H, nx⟩ with
        | some (.normal, s1) => match ev b fn.ntmps s1 with
          | some (.normal, s2) => match ev x fn.ntmps s2 with
            | some (.normal, s3) => match stepCO E (fun _ _ _ _ => none) fn.ntmps (told ops o1) s3 with
              | some s4 => match evA s4.t z with
                | some (.fn fd fa fc) => bif E.d fd && Nat.ble (fa.length + fc.length) 16 then match ev y fn.ntmps s4 with
                  | some (.ret, s5) => match E.r s5.t s5.H fn.results.toList with
                    | some v => bif bd s5.nx v then some (v, s5.H, s5.nx) else none
                    | none => none
                  | _ => none
                  else none
                | _ => none
              | none => none
            | _ => none
          | _ => none
        | _ => none
      | _, _, _ => none
    | _ => none
  | _ => none
def hbd (c : Nat) : AH → Bool
  | [] => true
  | (_, b) :: H => bdRL c b.cs && hbd c H
/-- A call: the body, then the results. -/
def callF (P : Program) (E : Ev) (ev : FCode) : FCall := fun f args H nx =>
  match E.x f args with
  | some (v, k) => some (rn (fun j => nx + j) v, H, nx + k)
  | none =>
  match P.funcs[f]? with
  | some fn => match fn.body with
    | some c => bif Nat.ble args.length fn.ntmps && Nat.ble fn.ntmps 1023 then
        bif E.df f then callFD E ev fn c args H nx else
        match ev c fn.ntmps ⟨putArgs 0 args .e, H, nx⟩ with
        | some (.ret, st) => (match E.r st.t st.H fn.results.toList with
          | some v => bif bd 0 v && hbd nx (AHkeep nx st.H) then some (v, AHkeep nx st.H, st.nx) else bif bd st.nx v then some (v, st.H, st.nx) else none
          | none => none)
        | some (.normal, st) => (match E.r st.t st.H fn.results.toList with
          | some v => bif bd 0 v && hbd nx (AHkeep nx st.H) then some (v, AHkeep nx st.H, st.nx) else bif bd st.nx v then some (v, st.H, st.nx) else none
          | none => none)
        | _ => none
      else none
    | none => none
  | none => none
def evCode (P : Program) (E : Ev) (dr : FDraw) : Nat → FCode
  | 0, _, _, _ => none
  | f + 1, c, n, st => match c with
    | .skip => some (.normal, st)
    | .region _ ops false => match evOps E (callF P E (evCode P E dr f)) n (ops.toList.map (told ops)) st with
      | some st' => some (.normal, st')
      | none => none
    | .region _ ops true => match dr (callF P E (evCode P E dr f)) n ops st with
      | some st' => some (.normal, st')
      | none => none
    | .seq a b => match evCode P E dr f a n st with
      | some (.normal, st') => evCode P E dr f b n st'
      | r => r
    | .cond c a b => match evA st.t c with
      | some (.bool t) => bif t then evCode P E dr f a n st else evCode P E dr f b n st
      | _ => none
    | .block id b => match evCode P E dr f b n st with
      | some (.exit i, st') => bif Nat.beq i id then some (.normal, st') else some (.exit i, st')
      | r => r
    | .loop b => match evCode P E dr f b n st with
      | some (.normal, st') => evCode P E dr f (.loop b) n st'
      | r => r
    | .exit id => some (.exit id, st)
    | .ret => some (.ret, st)
    | .label _ => some (.normal, st)
    | .scope b => match evCode P E dr f b n st with
      | some (.goto _, _) => none
      | r => r
    | _ => none

theorem putArgs_at (c : Nat) : ∀ (vs : List AV) (i : Nat) (t : Tr), bdL c vs = true → TBd c t → i + vs.length ≤ 1023 → TBd c (putArgs i vs t)
  | [], _, _, _, H, _ => H
  | v :: vs, i, t, hb, H, hl => by
    simp only [bdL, Bool.and_eq_true] at hb
    simp only [List.length_cons] at hl
    exact putArgs_at c vs (i + 1) _ hb.2 (H.put (by omega) hb.1) (by omega)
theorem putArgs_kn {ρ : Rho} : ∀ (vs : List AV) (i : Nat) (t : Tr) (s : Sl), (∀ j v, t.at j = some v → j < i ∧ lk s j = some (sh ρ v)) → i + vs.length ≤ 1023 →
    ∀ j v, (putArgs i vs t).at j = some v → (j < i ∧ lk s j = some (sh ρ v)) ∨ (i ≤ j ∧ vs[j - i]? = some v)
  | [], i, t, s, H, _, j, v, h => .inl (H j v h)
  | u :: vs, i, t, s, H, hl, j, v, h => by
    simp only [List.length_cons] at hl
    have ih := putArgs_kn (ρ := ρ) vs (i + 1) (t.put i u) ((i, sh ρ u) :: s) (fun j v hj => by
      rw [TB.at_put _ _ _ _ (by omega)] at hj
      by_cases e : i = j
      · subst e; simp at hj; subst hj; exact ⟨by omega, by simp [lk]⟩
      · rw [if_neg e] at hj
        obtain ⟨a, b⟩ := H j v hj
        refine ⟨by omega, ?_⟩
        simp only [lk]
        rw [show (i == j) = false from by simpa using e]; exact b) (by omega) j v h
    rcases ih with ⟨a, b⟩ | ⟨a, b⟩
    · simp only [lk] at b
      by_cases e : i = j
      · subst e
        rw [show (i == i) = true from by simp] at b
        simp only [cond_true, Option.some.injEq] at b
        have h1 := h
        have : (putArgs (i + 1) vs (t.put i u)).at i = some v := h1
        right
        refine ⟨Nat.le_refl _, ?_⟩
        simp only [Nat.sub_self, List.getElem?_cons_zero]
        have key : ∀ (vs : List AV) (k : Nat) (t : Tr), i < k → k + vs.length ≤ 1023 → (putArgs k vs t).at i = t.at i := by
          intro vs
          induction vs with
          | nil => intro k t _ _; rfl
          | cons w ws ih =>
            intro k t hk hl
            simp only [List.length_cons] at hl
            simp only [putArgs]
            rw [ih (k + 1) _ (by omega) (by omega), TB.at_put _ _ _ _ (by omega), if_neg (by omega)]
        rw [key vs (i + 1) _ (by omega) (by omega), TB.at_put _ _ _ _ (by omega)] at this
        simpa using this
      · rw [show (i == j) = false from by simpa using e] at b
        exact .inl ⟨by omega, b⟩
    · right
      refine ⟨by omega, ?_⟩
      rw [show j - i = (j - (i + 1)) + 1 by omega]; simpa using b
theorem lk_argSl' : ∀ (vs : List Value) (i j : Nat) (v : Value), i ≤ j → vs[j - i]? = some v → lk (argSl i vs) j = some v
  | [], _, _, _, _, h => by simp at h
  | u :: vs, i, j, v, hij, h => by
    simp only [argSl, lk]
    cases hb : (i == j) with
    | true => have := eq_of_beq hb; subst this; simp at h; simp [h]
    | false =>
      have hne : i ≠ j := ne_of_beq_false hb
      simp only [cond_false]
      refine lk_argSl' vs (i + 1) j v (by omega) ?_
      rw [show j - i = (j - (i + 1)) + 1 by omega] at h; simpa using h
theorem putArgs_ok (ρ : Rho) (vs : List AV) (h : vs.length ≤ 1023) : Kn ρ (putArgs 0 vs .e) (argSl 0 (shL ρ vs)) := fun j v hj => by
  rcases putArgs_kn (ρ := ρ) vs 0 .e [] (fun j v hj => by rw [TB.at_e] at hj; cases hj) (by omega) j v hj with ⟨a, _⟩ | ⟨_, b⟩
  · exact absurd a (by omega)
  · exact lk_argSl' _ 0 j _ (Nat.zero_le _) (by rw [shL_map]; simp only [Nat.sub_zero] at b ⊢; rw [List.getElem?_map, b]; rfl)
theorem HBd.keep {c c' : Nat} {H : AH} (h : HBd c H) : HBd c (AHkeep c' H) := fun k b hm => h k b (keep_mem hm)
theorem Gr.keep {ρ : Rho} {c : Nat} {H : AH} (h : Gr ρ H) : Gr ρ (AHkeep c H) := fun k b z hm => h k b z (keep_mem hm)
/-- All functions with a body are entered. -/
def Enters (P : Program) : Prop := ∀ (f : FuncId) (fn : Func), P.funcs[f]? = some fn → fn.body.isSome = true → ∀ (args : Array Value) (W : World), (callFunc f args).run P W = .ok (.enter f args) W
theorem callFD_ok {P : Program} {w0 : World} {E : Ev} {ev : FCode} (hP : Enters P) (hE : EvOk P w0 E) (hc : SCode P w0 ev) {f : FuncId} {fn : Func} {c : Code} (hfn : P.funcs[f]? = some fn) (hbody : fn.body = some c) {args : List AV} {H H' : AH} {nx nx' : Nat} {v : AV}
    (hg1 : args.length ≤ fn.ntmps) (hg2 : fn.ntmps ≤ 1023) (hH : HBd nx H) (hb : bdL nx args = true) (h : callFD E ev fn c args H nx = some (v, H', nx')) : (nx ≤ nx' ∧ HBd nx' H' ∧ bd nx' v = true) ∧
      ∀ (ρ : Rho) (hf : List Bx) (Φ : Value → List Bx → Prop), Gr ρ H → (∀ ρ', Agree nx ρ ρ' → Gr ρ' H' → Φ (sh ρ' v) (hl ρ' H' ++ hf)) → Ct P f (shL ρ args).toArray w0 (hl ρ H ++ hf) Φ := by
  have ok0 : (⟨putArgs 0 args .e, H, nx⟩ : ES).Ok := ⟨putArgs_at nx args 0 .e hb (fun j v hj => by rw [TB.at_e] at hj; cases hj) (by omega), hH⟩
  have hno : SCall P w0 (fun _ _ _ _ => none) := fun f args H nx v H' nx' h => by cases h
  unfold callFD at h
  split at h
  · rename_i a b x id ops y
    split at h
    · rename_i o1 o2 hops
      split at h
      · rename_i z tys ho2 hog hod
        split at h
        · rename_i s1 h1
          split at h
          · rename_i s2 h2
            split at h
            · rename_i s3 h3
              split at h
              · rename_i s4 h4
                split at h
                · rename_i fd fa fc hz
                  cases hd0 : (E.d fd && Nat.ble (fa.length + fc.length) 16) with
                  | false => rw [hd0] at h; cases h
                  | true =>
                    rw [hd0] at h; simp only [cond_true] at h
                    simp only [Bool.and_eq_true, Nat.ble_eq] at hd0
                    obtain ⟨hd, hsz⟩ := hd0
                    split at h
                    · rename_i s5 h5
                      split at h
                      · rename_i u hu
                        cases hbu : bd s5.nx u with
                        | false => rw [hbu] at h; cases h
                        | true =>
                          rw [hbu] at h; simp only [cond_true, Option.some.injEq, Prod.mk.injEq] at h
                          obtain ⟨rfl, rfl, rfl⟩ := h
                          obtain ⟨⟨a1, a2⟩, a3⟩ := hc a _ _ _ _ hg2 h1 ok0
                          obtain ⟨⟨b1, b2⟩, b3⟩ := hc b _ _ _ _ hg2 h2 a2
                          obtain ⟨⟨c1, c2⟩, c3⟩ := hc x _ _ _ _ hg2 h3 b2
                          obtain ⟨⟨d1, d2⟩, d3⟩ := stepCO_ok hE hno hg2 h4 c2
                          obtain ⟨⟨e1, e2⟩, e3⟩ := hc y _ _ _ _ hg2 h5 d2
                          simp only at a1 a3
                          refine ⟨⟨by omega, e2.H, hbu⟩, fun ρ hf Φ hgr hΦ => ?_⟩
                          refine ct_defer hfn hbody hops ho2 hog hod rfl (by rw [Nat.ble_eq, shL_map]; simpa using hg1) (hP f fn hfn (by rw [hbody]; rfl) _) ?_
                          refine a3 ρ _ hf _ (by rintro c s s' h ⟨e, _⟩; cases e) (putArgs_ok ρ args (by omega)) hgr fun ρ1 t1 hA1 hg1 hk1 => ⟨rfl, ?_⟩
                          refine b3 ρ1 _ hf _ (by rintro c s s' h ⟨e, _⟩; cases e) hk1 hg1 fun ρ2 t2 hA2 hg2 hk2 => ⟨rfl, ?_⟩
                          refine c3 ρ2 _ hf _ (by rintro c s s' h ⟨e, _⟩; cases e) hk2 hg2 fun ρ3 t3 hA3 hg3 hk3 => ⟨rfl, ?_⟩
                          refine d3 ρ3 _ hf [] _ hk3 hg3 fun ρ4 t4 hA4 hg4 hk4 => ⟨rfl, fd, (shL ρ4 fa).toArray, (shL ρ4 fc).toArray, by have := evA_ok hk4 hz; simpa [sh] using this, by simpa [shL_map] using hsz, hE.d fd hd, ?_⟩
                          refine e3 ρ4 _ hf _ (by rintro c s s' h ⟨e, _⟩; cases e) hk4 hg4 fun ρ5 t5 hA5 hg5 hk5 => ⟨rfl, ?_⟩
                          refine hE.r hu ρ5 _ t5 hf fn .ret Φ hk5 rfl (.inl rfl) _ (List.Sublist.refl _) (hΦ ρ5 ?_ hg5)
                          exact (((hA1.trans hA2 a1).trans hA3 (by omega)).trans hA4 (by omega)).trans hA5 (by omega)
                      · cases h
                    · cases h
                · cases h
              · cases h
            · cases h
          · cases h
        · cases h
      · cases h
    · cases h
  · cases h
theorem callF_ok {P : Program} {w0 : World} {E : Ev} {ev : FCode} (hP : Enters P) (hE : EvOk P w0 E) (hc : SCode P w0 ev) : SCall P w0 (callF P E ev) := by
  intro f args H nx v H' nx' h hH hb
  unfold callF at h
  split at h
  · rename_i u k hu
    simp only [Option.some.injEq, Prod.mk.injEq] at h
    obtain ⟨rfl, rfl, rfl⟩ := h
    obtain ⟨x1, x2⟩ := hE.x f args _ _ hu
    refine ⟨⟨Nat.le_add_right _ _, hH.mono (Nat.le_add_right _ _), bd_rn k nx u x1⟩, fun ρ hf Φ hg hΦ => ?_⟩
    have hx := x2 ρ (hl ρ H ++ hf)
    refine ⟨hx.1, fun W hi => (hx.2 W hi).mono ?_⟩
    rintro e W' ⟨v', h', e1, e2, ⟨ρ', rfl⟩, rfl⟩
    have hA : Agree nx ρ (fun j => if j < nx then ρ j else ρ' (j - nx)) := fun j hj => by simp [hj]
    have hv : sh (fun j => if j < nx then ρ j else ρ' (j - nx)) (rn (fun j => nx + j) u) = sh ρ' u := by
      rw [sh_rn]
      congr 1
      funext j
      simp only [Nat.add_sub_cancel_left, if_neg (show ¬ nx + j < nx by omega)]
    refine ⟨_, _, e1, e2, ?_⟩
    have := hΦ _ hA (hg.agree hA hH)
    rw [hl_agree hA hH, hv] at this
    exact this
  split at h
  · rename_i fn hfn
    split at h
    · rename_i c hbody
      cases hg : (Nat.ble args.length fn.ntmps && Nat.ble fn.ntmps 1023) with
      | false => rw [hg] at h; cases h
      | true =>
        rw [hg] at h
        simp only [cond_true] at h
        simp only [Bool.and_eq_true, Nat.ble_eq] at hg
        cases hdf : E.df f with
        | true => rw [hdf] at h; exact callFD_ok hP hE hc hfn hbody hg.1 hg.2 hH hb h
        | false =>
        rw [hdf] at h
        simp only [cond_false] at h
        have ok0 : (⟨putArgs 0 args .e, H, nx⟩ : ES).Ok := ⟨putArgs_at nx args 0 .e hb (fun j v hj => by rw [TB.at_e] at hj; cases hj) (by omega), hH⟩
        have main : ∀ (e : Exit) (st : ES), (e = .ret ∨ e = .normal) → ev c fn.ntmps ⟨putArgs 0 args .e, H, nx⟩ = some (e, st) →
            (match E.r st.t st.H fn.results.toList with
              | some v => bif bd 0 v && hbd nx (AHkeep nx st.H) then some (v, AHkeep nx st.H, st.nx) else bif bd st.nx v then some (v, st.H, st.nx) else none
              | none => none) = some (v, H', nx') → (nx ≤ nx' ∧ HBd nx' H' ∧ bd nx' v = true) ∧
              ∀ (ρ : Rho) (hf : List Bx) (Φ : Value → List Bx → Prop), Gr ρ H → (∀ ρ', Agree nx ρ ρ' → Gr ρ' H' → Φ (sh ρ' v) (hl ρ' H' ++ hf)) → Ct P f (shL ρ args).toArray w0 (hl ρ H ++ hf) Φ := by
          intro e st he h1 h2
          obtain ⟨⟨a1, a2⟩, a3⟩ := hc c fn.ntmps _ e st hg.2 h1 ok0
          simp only at a1 a3
          split at h2
          · rename_i u hu
            have fin : ∀ (K : AH), (∀ ρ : Rho, (hl ρ K).Sublist (hl ρ st.H)) → (∀ ρ, Gr ρ st.H → Gr ρ K) → HBd st.nx K → bd st.nx u = true → some (u, K, st.nx) = some (v, H', nx') → (nx ≤ nx' ∧ HBd nx' H' ∧ bd nx' v = true) ∧
              ∀ (ρ : Rho) (hf : List Bx) (Φ : Value → List Bx → Prop), Gr ρ H → (∀ ρ', Agree nx ρ ρ' → Gr ρ' H' → Φ (sh ρ' v) (hl ρ' H' ++ hf)) → Ct P f (shL ρ args).toArray w0 (hl ρ H ++ hf) Φ := by
              intro K hK1 hK2 hK3 hbu he2
              simp only [Option.some.injEq, Prod.mk.injEq] at he2
              obtain ⟨rfl, rfl, rfl⟩ := he2
              refine ⟨⟨a1, hK3, hbu⟩, fun ρ hf Φ hg0 hΦ => ?_⟩
              refine aw_ct hfn hbody rfl (by rw [Nat.ble_eq]; rw [shL_map]; simpa using hg.1) (hP f fn hfn (by rw [hbody]; rfl) _) ?_
              refine a3 ρ _ hf _ ?_ (putArgs_ok ρ args (by omega)) hg0 fun ρ' s' hA hg' hk' => ?_
              · intro c s s' h hq
                rcases hq.1 with e | e <;> cases e
              · exact hE.r hu ρ' _ s' hf fn e Φ hk' rfl he _ ((hK1 ρ').append_right hf) (hΦ ρ' hA (hK2 ρ' hg'))
            cases h0 : (bd 0 u && hbd nx (AHkeep nx st.H)) with
            | true =>
              rw [h0] at h2
              simp only [Bool.and_eq_true] at h0
              exact fin (AHkeep nx st.H) (fun ρ => hl_keep) (fun ρ h => h.keep) a2.H.keep (bd_mono (Nat.zero_le _) u h0.1) h2
            | false =>
              rw [h0] at h2
              cases h1 : bd st.nx u with
              | true => rw [h1] at h2; exact fin st.H (fun ρ => List.Sublist.refl _) (fun ρ h => h) a2.H h1 h2
              | false => rw [h1] at h2; cases h2
          · cases h2
        split at h
        · rename_i st h1; exact main _ st (.inl rfl) h1 h
        · rename_i st h1; exact main _ st (.inr rfl) h1 h
        · cases h
    · cases h
  · cases h
/-- Within a loop. -/
def AWL (P : Program) (w0 : World) (n : Nat) (c : Code) (Q : AQ) (s : Sl) (h : List Bx) : Prop :=
  ∀ D tm W, Knows n s tm → Inv w0 h W → ∀ b k cs, ∃ e a' w', post w0 n D Q e a' w' ∧ Arrives P (lone (b.at ⟨tm, D⟩ (.code c :: .inLoop c :: k)) cs W) b k cs e a' w'
theorem AWL.loop {P : Program} {w0 : World} {n : Nat} {Q : AQ} {s : Sl} {h : List Bx} {c : Code} (H : AWL P w0 n c Q s h) : AW P w0 n (.loop c) Q s h := fun D tm W hk hi b k cs => by
  obtain ⟨e, a', w', hq, harr⟩ := H D tm W hk hi b k cs
  exact ⟨e, a', w', hq, .of_steps (.one step_loop) harr⟩
theorem AWL.round {P : Program} {w0 : World} {n : Nat} {Q : AQ} {s : Sl} {h : List Bx} {c : Code} (H : AW P w0 n c (aThen (AWL P w0 n c Q) Q) s h) : AWL P w0 n c Q s h := fun D tm W hk hi => by
  intro b k cs
  obtain ⟨e, a₁, w₁, ⟨s', h', hk', hi', hd, hq⟩, harr⟩ := H D tm W hk hi b (.inLoop c :: k) cs
  cases e with
  | normal =>
    obtain ⟨tm', ds⟩ := a₁
    cases hd
    obtain ⟨e₂, a₂, w₂, hq₂, harr₂⟩ := hq _ tm' w₁ hk' hi' b k cs
    exact ⟨_, _, _, hq₂, .of_steps (Steps.trans harr (.one step_inLoop)) harr₂⟩
  | exit id => exact ⟨_, _, _, ⟨s', h', hk', hi', hd, hq⟩, (.pass (x := .inLoop c) rfl (fun _ _ => .inl (by simp)) harr)⟩
  | goto l => exact ⟨_, _, _, ⟨s', h', hk', hi', hd, hq⟩, (.pass (x := .inLoop c) rfl (fun _ _ => .inl (by simp)) harr)⟩
  | ret => exact ⟨_, _, _, ⟨s', h', hk', hi', hd, hq⟩, (.pass (x := .inLoop c) rfl (fun _ _ => .inl (by simp)) harr)⟩
  | panic ch => exact ⟨_, _, _, ⟨s', h', hk', hi', hd, hq⟩, (.pass (x := .inLoop c) rfl (fun _ _ => .inl (by simp)) harr)⟩
  | outgrown => exact ⟨_, _, _, ⟨s', h', hk', hi', hd, hq⟩, (.pass (x := .inLoop c) rfl (fun _ _ => .inl (by simp)) harr)⟩
theorem aw_label {P : Program} {w0 : World} {n : Nat} {Q : AQ} {s : Sl} {h : List Bx} {l : Nat} (H : Q .normal s h) : AW P w0 n (.label l) Q s h := fun _ _ _ hk hi => wp_label ⟨s, h, hk, hi, rfl, H⟩
theorem aw_scope {P : Program} {w0 : World} {n : Nat} {Q : AQ} {s : Sl} {h : List Bx} {c : Code} (H : AW P w0 n c (fun e s h => (∀ l, e ≠ .goto l) ∧ Q e s h) s h) : AW P w0 n (.scope c) Q s h := fun D tm W hk hi =>
  wp_scope_straight (wp_mono (H D tm W hk hi) fun e a W' hp => by
    obtain ⟨s', h', hk', hi', hd, hne, hq⟩ := hp
    cases e with
    | goto l => exact absurd rfl (hne l)
    | _ => exact ⟨s', h', hk', hi', hd, hq⟩)
/-- What stands for a code's way. -/
def Way (P : Program) (w0 : World) (n : Nat) (c : Code) (st : ES) (e : Exit) (st' : ES) : Prop := ∀ (ρ : Rho) (s : Sl) (hf : List Bx) (Q : AQ), (∀ c s s' h, Q (.panic c) s h → Q (.panic c) s' h) → Kn ρ st.t s → Gr ρ st.H →
      (∀ ρ' s', Agree st.nx ρ ρ' → Gr ρ' st'.H → Kn ρ' st'.t s' → Q e s' (hl ρ' st'.H ++ hf)) → AW P w0 n c Q s (hl ρ st.H ++ hf) ∧ ∀ b, c = .loop b → AWL P w0 n b Q s (hl ρ st.H ++ hf)
def SCodeL (P : Program) (w0 : World) (ev : FCode) : Prop := ∀ (c : Code) (n : Nat) (st : ES) (e : Exit) (st' : ES), n ≤ 1023 → ev c n st = some (e, st') → st.Ok → (st.nx ≤ st'.nx ∧ st'.Ok) ∧ Way P w0 n c st e st'
theorem SCodeL.code {P : Program} {w0 : World} {ev : FCode} (H : SCodeL P w0 ev) : SCode P w0 ev := fun c n st e st' hn h ok =>
  ⟨(H c n st e st' hn h ok).1, fun ρ s hf Q hQ hk hg hq => ((H c n st e st' hn h ok).2 ρ s hf Q hQ hk hg hq).1⟩
theorem Way.of {P : Program} {w0 : World} {n : Nat} {c : Code} {st st' : ES} {e : Exit} (hc : ∀ b, c ≠ .loop b) (H : ∀ (ρ : Rho) (s : Sl) (hf : List Bx) (Q : AQ), (∀ c s s' h, Q (.panic c) s h → Q (.panic c) s' h) → Kn ρ st.t s → Gr ρ st.H →
      (∀ ρ' s', Agree st.nx ρ ρ' → Gr ρ' st'.H → Kn ρ' st'.t s' → Q e s' (hl ρ' st'.H ++ hf)) → AW P w0 n c Q s (hl ρ st.H ++ hf)) : Way P w0 n c st e st' :=
  fun ρ s hf Q hQ hk hg hq => ⟨H ρ s hf Q hQ hk hg hq, fun b hb => absurd hb (hc b)⟩
theorem evCode_ok {P : Program} {w0 : World} {E : Ev} {dr : FDraw} (hP : Enters P) (hE : EvOk P w0 E) (hd : SDraw P w0 E dr) : ∀ f, SCodeL P w0 (evCode P E dr f)
  | 0 => fun c n st e st' _ h => by simp [evCode] at h
  | f + 1 => fun c n st e st' hn h ok => by
    have ih := evCode_ok hP hE hd f
    have ihc := callF_ok hP hE ih.code
    cases c with
    | skip =>
      simp only [evCode, Option.some.injEq, Prod.mk.injEq] at h
      obtain ⟨rfl, rfl⟩ := h
      exact ⟨⟨Nat.le_refl _, ok⟩, Way.of (by simp) fun ρ s hf Q hQ hk hg hq => aw_skip (hq ρ s (Agree.refl _ _) hg hk)⟩
    | ret =>
      simp only [evCode, Option.some.injEq, Prod.mk.injEq] at h
      obtain ⟨rfl, rfl⟩ := h
      exact ⟨⟨Nat.le_refl _, ok⟩, Way.of (by simp) fun ρ s hf Q hQ hk hg hq => aw_ret (hq ρ s (Agree.refl _ _) hg hk)⟩
    | exit id =>
      simp only [evCode, Option.some.injEq, Prod.mk.injEq] at h
      obtain ⟨rfl, rfl⟩ := h
      exact ⟨⟨Nat.le_refl _, ok⟩, Way.of (by simp) fun ρ s hf Q hQ hk hg hq => aw_exit (hq ρ s (Agree.refl _ _) hg hk)⟩
    | region id ops draw =>
      cases draw with
      | false =>
        simp only [evCode] at h
        split at h
        · rename_i st1 h1
          simp only [Option.some.injEq, Prod.mk.injEq] at h
          obtain ⟨rfl, rfl⟩ := h
          obtain ⟨a, b⟩ := evOps_ok hE ihc hn h1 ok
          exact ⟨a, Way.of (by simp) fun ρ s hf Q hQ hk hg hq => aw_region rfl (b ρ s hf Q hk hg hq)⟩
        · cases h
      | true =>
        simp only [evCode] at h
        split at h
        · rename_i st1 h1
          simp only [Option.some.injEq, Prod.mk.injEq] at h
          obtain ⟨rfl, rfl⟩ := h
          obtain ⟨a, b⟩ := hd _ ihc n id ops st st1 hn h1 ok
          exact ⟨a, Way.of (by simp) fun ρ s hf Q hQ hk hg hq => b ρ s hf Q hQ hk hg hq⟩
        · cases h
    | seq x y =>
      simp only [evCode] at h
      split at h
      · rename_i st1 h1
        obtain ⟨⟨a1, a2⟩, a3⟩ := ih x n st _ st1 hn h1 ok
        obtain ⟨⟨b1, b2⟩, b3⟩ := ih y n st1 _ st' hn h a2
        exact ⟨⟨Nat.le_trans a1 b1, b2⟩, Way.of (by simp) fun ρ s hf Q hQ hk hg hq => aw_seq (a3 ρ s hf (aThen (AW P w0 n y Q) Q) hQ hk hg fun ρ' s' hA hg' hk' =>
          (b3 ρ' s' hf Q hQ hk' hg' fun ρ'' s'' hA' hg'' hk'' => hq ρ'' s'' (hA.trans hA' a1) hg'' hk'').1).1⟩
      · rename_i hne
        obtain ⟨⟨a1, a2⟩, a3⟩ := ih x n st e st' hn h ok
        refine ⟨⟨a1, a2⟩, Way.of (by simp) fun ρ s hf Q hQ hk hg hq => aw_seq (a3 ρ s hf (aThen (AW P w0 n y Q) Q) hQ hk hg fun ρ' s' hA hg' hk' => ?_).1⟩
        have := hq ρ' s' hA hg' hk'
        cases e with
        | normal => exact absurd h (hne st')
        | _ => exact this
    | cond c x y =>
      simp only [evCode] at h
      split at h
      · rename_i t ht
        cases t with
        | true =>
          simp only [cond_true] at h
          obtain ⟨a, a3⟩ := ih x n st e st' hn h ok
          exact ⟨a, Way.of (by simp) fun ρ s hf Q hQ hk hg hq => aw_cond_on (t := true) (by have := evA_ok hk ht; simpa [sh] using this) rfl (a3 ρ s hf Q hQ hk hg hq).1⟩
        | false =>
          simp only [cond_false] at h
          obtain ⟨a, a3⟩ := ih y n st e st' hn h ok
          exact ⟨a, Way.of (by simp) fun ρ s hf Q hQ hk hg hq => aw_cond_off (t := false) (by have := evA_ok hk ht; simpa [sh] using this) rfl (a3 ρ s hf Q hQ hk hg hq).1⟩
      · cases h
    | block id x =>
      simp only [evCode] at h
      split at h
      · rename_i i st1 h1
        obtain ⟨a, a3⟩ := ih x n st _ st1 hn h1 ok
        cases hb : Nat.beq i id with
        | true =>
          rw [hb] at h; simp only [cond_true, Option.some.injEq, Prod.mk.injEq] at h
          obtain ⟨rfl, rfl⟩ := h
          rw [Nat.beq_eq] at hb; subst hb
          exact ⟨a, Way.of (by simp) fun ρ s hf Q hQ hk hg hq => aw_block (a3 ρ s hf (aBlock i Q) hQ hk hg fun ρ' s' hA hg' hk' => by
            simp only [aBlock, if_true]; exact hq ρ' s' hA hg' hk').1⟩
        | false =>
          rw [hb] at h; simp only [cond_false, Option.some.injEq, Prod.mk.injEq] at h
          obtain ⟨rfl, rfl⟩ := h
          have hne : ¬ i = id := fun e => by subst e; rw [Nat.beq_refl] at hb; cases hb
          exact ⟨a, Way.of (by simp) fun ρ s hf Q hQ hk hg hq => aw_block (a3 ρ s hf (aBlock id Q) hQ hk hg fun ρ' s' hA hg' hk' => by
            simp only [aBlock, if_neg hne]; exact hq ρ' s' hA hg' hk').1⟩
      · rename_i hne
        obtain ⟨a, a3⟩ := ih x n st e st' hn h ok
        refine ⟨a, Way.of (by simp) fun ρ s hf Q hQ hk hg hq => aw_block (a3 ρ s hf (aBlock id Q) hQ hk hg fun ρ' s' hA hg' hk' => ?_).1⟩
        have := hq ρ' s' hA hg' hk'
        cases e with
        | exit i => exact absurd h (hne i st')
        | _ => exact this
    | loop x =>
      simp only [evCode] at h
      have key : (st.nx ≤ st'.nx ∧ st'.Ok) ∧ ∀ (ρ : Rho) (s : Sl) (hf : List Bx) (Q : AQ), (∀ c s s' h, Q (.panic c) s h → Q (.panic c) s' h) → Kn ρ st.t s → Gr ρ st.H →
          (∀ ρ' s', Agree st.nx ρ ρ' → Gr ρ' st'.H → Kn ρ' st'.t s' → Q e s' (hl ρ' st'.H ++ hf)) → AWL P w0 n x Q s (hl ρ st.H ++ hf) := by
        split at h
        · rename_i st1 h1
          obtain ⟨⟨a1, a2⟩, a3⟩ := ih x n st _ st1 hn h1 ok
          obtain ⟨⟨b1, b2⟩, b3⟩ := ih (.loop x) n st1 _ st' hn h a2
          exact ⟨⟨Nat.le_trans a1 b1, b2⟩, fun ρ s hf Q hQ hk hg hq => AWL.round (a3 ρ s hf (aThen (AWL P w0 n x Q) Q) hQ hk hg fun ρ' s' hA hg' hk' =>
            (b3 ρ' s' hf Q hQ hk' hg' fun ρ'' s'' hA' hg'' hk'' => hq ρ'' s'' (hA.trans hA' a1) hg'' hk'').2 x rfl).1⟩
        · rename_i hne
          obtain ⟨⟨a1, a2⟩, a3⟩ := ih x n st e st' hn h ok
          refine ⟨⟨a1, a2⟩, fun ρ s hf Q hQ hk hg hq => AWL.round (a3 ρ s hf (aThen (AWL P w0 n x Q) Q) hQ hk hg fun ρ' s' hA hg' hk' => ?_).1⟩
          have := hq ρ' s' hA hg' hk'
          cases e with
          | normal => exact absurd h (hne st')
          | _ => exact this
      refine ⟨key.1, fun ρ s hf Q hQ hk hg hq => ?_⟩
      have := key.2 ρ s hf Q hQ hk hg hq
      exact ⟨this.loop, fun b hb => by cases hb; exact this⟩
    | label l =>
      simp only [evCode, Option.some.injEq, Prod.mk.injEq] at h
      obtain ⟨rfl, rfl⟩ := h
      exact ⟨⟨Nat.le_refl _, ok⟩, Way.of (by simp) fun ρ s hf Q hQ hk hg hq => aw_label (hq ρ s (Agree.refl _ _) hg hk)⟩
    | scope x =>
      simp only [evCode] at h
      split at h
      · cases h
      · rename_i hne
        obtain ⟨a, a3⟩ := ih x n st e st' hn h ok
        refine ⟨a, Way.of (by simp) fun ρ s hf Q hQ hk hg hq => aw_scope (a3 ρ s hf (fun e s h => (∀ l, e ≠ .goto l) ∧ Q e s h) (fun c s s' h hq => ⟨hq.1, hQ c s s' h hq.2⟩) hk hg fun ρ' s' hA hg' hk' => ⟨fun l el => ?_, hq ρ' s' hA hg' hk'⟩).1⟩
        subst el
        exact hne l st' h
    | _ => simp [evCode] at h
/-- A call that the kernel carries out. -/
theorem evCall_ok {P : Program} {w0 : World} {E : Ev} {dr : FDraw} (hP : Enters P) (hE : EvOk P w0 E) (hd : SDraw P w0 E dr) (f : Nat) : SCall P w0 (callF P E (evCode P E dr f)) := callF_ok hP hE (evCode_ok hP hE hd f).code
end
end Go.Proofs.YtpmjbobgglgnaaaGreatDoor
