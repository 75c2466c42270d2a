/- Closed calls that the kernel carries out: cells. -/
import Derived.Test.YtpmjbobgglgnaaaGreatDoorE2
import Derived.Test.YtpmjbobgglgnaaaGreatDoorW2
namespace Go.Proofs.YtpmjbobgglgnaaaGreatDoor
noncomputable section
open Go.RowKit
set_option linter.unusedVariables false
set_option linter.unusedSimpArgs false
theorem shL_len (ρ : Rho) : ∀ l : List AV, (shL ρ l).length = l.length
  | [] => rfl
  | v :: l => by simp [shL, shL_len ρ l]
theorem shL_app (ρ : Rho) (a b : List AV) : shL ρ (a ++ b) = shL ρ a ++ shL ρ b := by simp [shL_map]
def nthV : List AV → Nat → Option AV
  | [], _ => none
  | v :: l, i => bif Nat.beq i 0 then some v else nthV l (Nat.pred i)
theorem nthV_eq : ∀ (l : List AV) (i : Nat), nthV l i = l[i]?
  | [], _ => by simp [nthV]
  | v :: l, 0 => by simp [nthV]
  | v :: l, i + 1 => by
    have : Nat.beq (i + 1) 0 = false := rfl
    simp [nthV, nthV_eq l i, this]
theorem nthV_ok {ρ : Rho} {l : List AV} {i : Nat} {v : AV} (tl : List Value) (h : nthV l i = some v) : (shL ρ l ++ tl)[i]? = some (sh ρ v) := by
  rw [nthV_eq] at h
  obtain ⟨hl, _⟩ := List.getElem?_eq_some_iff.1 h
  rw [List.getElem?_append_left (by rw [shL_len]; exact hl), shL_map, List.getElem?_map, h]; rfl
def dropV : List AV → Nat → List AV
  | [], _ => []
  | v :: l, i => bif Nat.beq i 0 then v :: l else dropV l (Nat.pred i)
theorem dropV_eq : ∀ (l : List AV) (i : Nat), dropV l i = l.drop i
  | [], _ => by simp [dropV]
  | v :: l, 0 => by simp [dropV]
  | v :: l, i + 1 => by
    have : Nat.beq (i + 1) 0 = false := rfl
    simp [dropV, dropV_eq l i, this]
def takeV : List AV → Nat → Option (List AV)
  | l, 0 => some []
  | [], _ + 1 => none
  | v :: l, k + 1 => match takeV l k with
    | some r => some (v :: r)
    | none => none
theorem takeV_eq : ∀ {l : List AV} {k : Nat} {r : List AV}, takeV l k = some r → k ≤ l.length ∧ r = l.take k
  | l, 0, r, h => by simp only [takeV, Option.some.injEq] at h; subst h; simp
  | [], k + 1, r, h => by simp [takeV] at h
  | v :: l, k + 1, r, h => by
    simp only [takeV] at h
    split at h
    · rename_i q hq
      obtain ⟨h1, h2⟩ := takeV_eq hq
      simp only [Option.some.injEq] at h; subst h
      exact ⟨by simp; omega, by simp [h2]⟩
    · cases h
def nthsV (l : List AV) (i k : Nat) : Option (List AV) := takeV (dropV l i) k
theorem nths_of : ∀ (k : Nat) (l : List Value) (i : Nat) (vs : List Value), vs.length = k → (∀ j v, vs[j]? = some v → l[i + j]? = some v) → nths l i k = some vs
  | 0, l, i, vs, h, _ => by rw [List.length_eq_zero_iff.1 h]; rfl
  | k + 1, l, i, [], h, _ => by simp at h
  | k + 1, l, i, v :: vs, h, H => by
    have h0 := H 0 v (by simp)
    have ih := nths_of k l (i + 1) vs (by simpa using h) (fun j u hu => by have := H (j + 1) u (by simpa using hu); rw [show i + 1 + j = i + (j + 1) by omega]; exact this)
    simp only [nths, nth_eq]
    rw [show l[i]? = some v from h0, ih]
theorem nthsV_at {ρ : Rho} {l : List AV} {i k : Nat} {r : List AV} (tl : List Value) (h : nthsV l i k = some r) : r.length = k ∧ ∀ j v, (shL ρ r)[j]? = some v → (shL ρ l ++ tl)[i + j]? = some v := by
  unfold nthsV at h
  obtain ⟨h1, h2⟩ := takeV_eq h
  rw [dropV_eq] at h1 h2
  simp only [List.length_drop] at h1
  have hr : r.length = k := by rw [h2]; simp; omega
  refine ⟨hr, fun j v hj => ?_⟩
  rw [shL_map, List.getElem?_map] at hj
  have hlt : j < k := by
    rw [← hr]
    cases hx : r[j]? with
    | none => rw [hx] at hj; cases hj
    | some u => exact (List.getElem?_eq_some_iff.1 hx).1
  rw [h2, List.getElem?_take_of_lt hlt, List.getElem?_drop] at hj
  rw [List.getElem?_append_left (by rw [shL_len]; omega), shL_map, List.getElem?_map]; exact hj
theorem nthsV_ok {ρ : Rho} {l : List AV} {i k : Nat} {r : List AV} (tl : List Value) (h : nthsV l i k = some r) : nths (shL ρ l ++ tl) i k = some (shL ρ r) :=
  nths_of k _ i _ (by rw [shL_len]; exact (nthsV_at (ρ := ρ) tl h).1) (nthsV_at tl h).2
def cellsV : AV → Option (List AV)
  | .agg l => some l
  | .tup _ => none
  | .und => none
  | v => some [v]
theorem cellsV_ok {ρ : Rho} {v : AV} {vs : List AV} (h : cellsV v = some vs) : cellsL (sh ρ v) = some (shL ρ vs) := by
  cases v <;> simp only [cellsV, Option.some.injEq, reduceCtorEq] at h <;> subst h <;> simp [sh, shL, cellsL]
def one1V : AV → Bool
  | .agg _ | .tup _ | .und => false
  | _ => true
def all1V : List AV → Bool
  | [] => true
  | v :: vs => one1V v && all1V vs
theorem one1V_ok {ρ : Rho} {v : AV} (h : one1V v = true) : one1 (sh ρ v) = true := by
  cases v <;> simp [one1V] at h <;> simp [sh, one1]
theorem all1V_ok {ρ : Rho} : ∀ {vs : List AV}, all1V vs = true → all1 (shL ρ vs) = true
  | [], _ => by simp [shL, all1]
  | v :: vs, h => by simp only [all1V, Bool.and_eq_true] at h; simp [shL, all1, one1V_ok (ρ := ρ) h.1, all1V_ok (ρ := ρ) h.2]
def overV : List AV → List AV → Option (List AV)
  | l, [] => some l
  | [], _ :: _ => none
  | _ :: l, v :: vs => match overV l vs with
    | some r => some (v :: r)
    | none => none
def setsV : List AV → Nat → List AV → Option (List AV)
  | [], i, vs => bif Nat.beq i 0 then overV [] vs else none
  | u :: l, i, vs => bif Nat.beq i 0 then overV (u :: l) vs else match setsV l (Nat.pred i) vs with
    | some r => some (u :: r)
    | none => none
theorem setsL_cons : ∀ (vs : List Value) (u : Value) (l : List Value) (i : Nat) {r : List Value}, setsL l i vs = some r → setsL (u :: l) (i + 1) vs = some (u :: r)
  | [], u, l, i, r, h => by simp only [setsL, Option.some.injEq] at h ⊢; rw [h]
  | v :: vs, u, l, i, r, h => by
    simp only [setsL] at h ⊢
    split at h
    · rename_i q hq
      simp only [set1, hq]
      exact setsL_cons vs u q (i + 1) h
    · cases h
theorem overV_ok {ρ : Rho} {tl : List Value} : ∀ {vs l r : List AV}, overV l vs = some r → setsL (shL ρ l ++ tl) 0 (shL ρ vs) = some (shL ρ r ++ tl)
  | [], l, r, h => by
    simp only [overV, Option.some.injEq] at h; subst h; simp [shL, setsL]
  | v :: vs, [], r, h => by simp [overV] at h
  | v :: vs, u :: l, r, h => by
    simp only [overV] at h
    split at h
    · rename_i q hq
      simp only [Option.some.injEq] at h; subst h
      simp only [shL, setsL, List.cons_append, set1]
      exact setsL_cons _ _ _ 0 (overV_ok hq)
    · cases h
theorem setsV_ok {ρ : Rho} {tl : List Value} : ∀ {l : List AV} {i : Nat} {vs r : List AV}, setsV l i vs = some r → setsL (shL ρ l ++ tl) i (shL ρ vs) = some (shL ρ r ++ tl)
  | [], i, vs, r, h => by
    simp only [setsV] at h
    cases hb : Nat.beq i 0 with
    | true => rw [hb] at h; rw [Nat.beq_eq] at hb; subst hb; exact overV_ok h
    | false => rw [hb] at h; cases h
  | u :: l, 0, vs, r, h => overV_ok (by simpa [setsV] using h)
  | u :: l, i + 1, vs, r, h => by
    simp only [setsV, show Nat.beq (i + 1) 0 = false from rfl, cond_false, Nat.pred_succ] at h
    split at h
    · rename_i q hq
      simp only [Option.some.injEq] at h; subst h
      simp only [shL, List.cons_append]
      exact setsL_cons _ _ _ i (setsV_ok hq)
    · cases h
theorem overV_len : ∀ {vs l r : List AV}, overV l vs = some r → r.length = l.length
  | [], l, r, h => by simp only [overV, Option.some.injEq] at h; rw [h]
  | v :: vs, [], r, h => by simp [overV] at h
  | v :: vs, u :: l, r, h => by
    simp only [overV] at h
    split at h
    · rename_i q hq; simp only [Option.some.injEq] at h; subst h; simp [overV_len hq]
    · cases h
theorem setsV_len : ∀ {l : List AV} {i : Nat} {vs r : List AV}, setsV l i vs = some r → r.length = l.length
  | [], i, vs, r, h => by
    simp only [setsV] at h
    cases hb : Nat.beq i 0 with
    | true => rw [hb] at h; exact overV_len h
    | false => rw [hb] at h; cases h
  | u :: l, 0, vs, r, h => overV_len (by simpa [setsV] using h)
  | u :: l, i + 1, vs, r, h => by
    simp only [setsV, show Nat.beq (i + 1) 0 = false from rfl, cond_false, Nat.pred_succ] at h
    split at h
    · rename_i q hq; simp only [Option.some.injEq] at h; subst h; simp [setsV_len hq]
    · cases h
theorem bdL_mem {c : Nat} : ∀ {l : List AV}, bdL c l = true ↔ ∀ v ∈ l, bd c v = true
  | [] => by simp [bdL]
  | v :: l => by simp [bdL, bdL_mem (l := l)]
theorem overV_bd {c : Nat} : ∀ {vs l r : List AV}, overV l vs = some r → bdL c l = true → bdL c vs = true → bdL c r = true
  | [], l, r, h, hl, _ => by simp only [overV, Option.some.injEq] at h; subst h; exact hl
  | v :: vs, [], r, h, _, _ => by simp [overV] at h
  | v :: vs, u :: l, r, h, hl, hv => by
    simp only [overV] at h
    split at h
    · rename_i q hq
      simp only [Option.some.injEq] at h; subst h
      simp only [bdL, Bool.and_eq_true] at hl hv ⊢
      exact ⟨hv.1, overV_bd hq hl.2 hv.2⟩
    · cases h
theorem setsV_bd {c : Nat} : ∀ {l : List AV} {i : Nat} {vs r : List AV}, setsV l i vs = some r → bdL c l = true → bdL c vs = true → bdL c r = true
  | [], i, vs, r, h, hl, hv => by
    simp only [setsV] at h
    cases hb : Nat.beq i 0 with
    | true => rw [hb] at h; exact overV_bd h hl hv
    | false => rw [hb] at h; cases h
  | u :: l, 0, vs, r, h, hl, hv => overV_bd (by simpa [setsV] using h) hl hv
  | u :: l, i + 1, vs, r, h, hl, hv => by
    simp only [setsV, show Nat.beq (i + 1) 0 = false from rfl, cond_false, Nat.pred_succ] at h
    split at h
    · rename_i q hq
      simp only [Option.some.injEq] at h; subst h
      simp only [bdL, Bool.and_eq_true] at hl ⊢
      exact ⟨hl.1, setsV_bd hq hl.2 hv⟩
    · cases h

/-! ### The tables as trees -/
theorem lkN_G : ∀ (l : List (Nat × Nat)) (j : Nat), lkN l j = lkG l j
  | [], _ => rfl
  | (i, v) :: l, j => by simp only [lkN, lkG, lkN_G l j]
def szT : TB Nat := TB.ofL szL
theorem szT_ok (t : Nat) : szT.at t = lkN szL t := by rw [lkN_G]; exact TB.at_ofL t (by decide +kernel)
def slT : TB Nat := TB.ofL slL
theorem slT_ok (t : Nat) : slT.at t = lkN slL t := by rw [lkN_G]; exact TB.at_ofL t (by decide +kernel)
def elT : TB Nat := TB.ofL elL
theorem elT_ok (t : Nat) : elT.at t = lkN elL t := by rw [lkN_G]; exact TB.at_ofL t (by decide +kernel)
def fdT : TB (List Nat) := TB.ofL fdL
theorem fdT_ok {t f o : Nat} {l : List Nat} (h : fdT.at t = some l) (hf : l[f]? = some o) : lkF fdL t f = some o := by
  have key : ∀ (L : List (Nat × List Nat)), lkG L t = some l → lkF L t f = some o := by
    intro L
    induction L with
    | nil => intro h; cases h
    | cons x L ih =>
      obtain ⟨i, v⟩ := x
      intro h
      simp only [lkG, lkF] at h ⊢
      cases hb : Nat.beq i t with
      | true => rw [hb] at h; simp only [cond_true, Option.some.injEq] at h; subst h; simp [hf]
      | false => rw [hb] at h; exact ih h
  exact key _ (by rw [← TB.at_ofL t (by decide +kernel)]; exact h)
def zT : TB (List Value) := TB.ofL zL
theorem zT_ok (t : Nat) : zT.at t = lkV zL t := by
  have : ∀ (l : List (Nat × List Value)) (j : Nat), lkV l j = lkG l j := by
    intro l; induction l with
    | nil => intro j; rfl
    | cons x l ih => obtain ⟨i, v⟩ := x; intro j; simp only [lkV, lkG, ih j]
  rw [this]; exact TB.at_ofL t (by decide +kernel)
def fsT : TB (List (Nat × Nat)) := TB.ofL fsL
theorem fsT_ok (t : Nat) : fsT.at t = lkS fsL t := by
  have : ∀ (l : List (Nat × List (Nat × Nat))) (j : Nat), lkS l j = lkG l j := by
    intro l; induction l with
    | nil => intro j; rfl
    | cons x l ih => obtain ⟨i, v⟩ := x; intro j; simp only [lkS, lkG, ih j]
  rw [this]; exact TB.at_ofL t (by decide +kernel)
def ikT : TB IntKind := TB.ofL ikL
theorem ikT_ok (t : Nat) : ikT.at t = lkI ikL t := by
  have : ∀ (l : List (Nat × IntKind)) (j : Nat), lkI l j = lkG l j := by
    intro l; induction l with
    | nil => intro j; rfl
    | cons x l ih => obtain ⟨i, v⟩ := x; intro j; simp only [lkI, lkG, ih j]
  rw [this]; exact TB.at_ofL t (by decide +kernel)
end
end Go.Proofs.YtpmjbobgglgnaaaGreatDoor
