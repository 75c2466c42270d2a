/- Closed calls that the kernel carries out: regions that draw their order; every order comes to the same, up to the names of blocks. -/
import Derived.Test.YtpmjbobgglgnaaaGreatDoorE11
namespace Go.Proofs.YtpmjbobgglgnaaaGreatDoor
noncomputable section
open Go.RowKit
set_option linter.unusedVariables false
set_option linter.unusedSimpArgs false
mutual
def eqAV : AV → AV → Bool
  | .bool a, .bool b => a == b
  | .int k a, .int l b => ikEq k l && a == b
  | .str a, .str b => a == b
  | .nilp, .nilp => true
  | .ptr k o, .ptr l p => Nat.beq k l && Nat.beq o p
  | .glob k o, .glob l p => Nat.beq k l && Nat.beq o p
  | .nils, .nils => true
  | .sli k o len kn c, .sli k' o' len' kn' c' => Nat.beq k k' && Nat.beq o o' && Nat.beq len len' && kn == kn' && Nat.beq c c'
  | .emp k, .emp l => Nat.beq k l
  | .fn f a c, .fn g b d => Nat.beq f g && eqAVs a b && eqAVs c d
  | .nilf, .nilf => true
  | .nili, .nili => true
  | .iface t v, .iface u w => Nat.beq t u && eqAV v w
  | .agg a, .agg b => eqAVs a b
  | .tup a, .tup b => eqAVs a b
  | .und, .und => true
  | _, _ => false
def eqAVs : List AV → List AV → Bool
  | [], [] => true
  | a :: l, b :: m => eqAV a b && eqAVs l m
  | _, _ => false
end
mutual
theorem eqAV_ok : ∀ (a b : AV), eqAV a b = true → a = b
  | .bool a, b, h => by cases b <;> simp [eqAV] at h; subst h; rfl
  | .int k a, b, h => by cases b <;> simp [eqAV, ikEq_iff] at h; obtain ⟨rfl, rfl⟩ := h; rfl
  | .str a, b, h => by cases b <;> simp [eqAV] at h; subst h; rfl
  | .nilp, b, h => by cases b <;> simp [eqAV] at h; rfl
  | .ptr k o, b, h => by cases b <;> simp [eqAV, Nat.beq_eq] at h; obtain ⟨rfl, rfl⟩ := h; rfl
  | .glob k o, b, h => by cases b <;> simp [eqAV, Nat.beq_eq] at h; obtain ⟨rfl, rfl⟩ := h; rfl
  | .nils, b, h => by cases b <;> simp [eqAV] at h; rfl
  | .sli k o len kn c, b, h => by cases b <;> simp [eqAV, Nat.beq_eq] at h; obtain ⟨⟨⟨⟨rfl, rfl⟩, rfl⟩, rfl⟩, rfl⟩ := h; rfl
  | .emp k, b, h => by cases b <;> simp [eqAV, Nat.beq_eq] at h; subst h; rfl
  | .fn f a c, b, h => by
    cases b <;> simp [eqAV, Nat.beq_eq] at h
    rename_i g b d
    obtain ⟨⟨rfl, h1⟩, h2⟩ := h
    rw [eqAVs_ok a b h1, eqAVs_ok c d h2]
  | .nilf, b, h => by cases b <;> simp [eqAV] at h; rfl
  | .nili, b, h => by cases b <;> simp [eqAV] at h; rfl
  | .iface t v, b, h => by
    cases b <;> simp [eqAV, Nat.beq_eq] at h
    rename_i u w
    obtain ⟨rfl, h1⟩ := h
    rw [eqAV_ok v w h1]
  | .agg a, b, h => by
    cases b <;> simp [eqAV] at h
    rename_i b
    rw [eqAVs_ok a b h]
  | .tup a, b, h => by
    cases b <;> simp [eqAV] at h
    rename_i b
    rw [eqAVs_ok a b h]
  | .und, b, h => by cases b <;> simp [eqAV] at h; rfl
theorem eqAVs_ok : ∀ (a b : List AV), eqAVs a b = true → a = b
  | [], b, h => by cases b <;> simp [eqAVs] at h; rfl
  | a :: l, b, h => by
    cases b <;> simp [eqAVs] at h
    rename_i b m
    rw [eqAV_ok a b h.1, eqAVs_ok l m h.2]
end
/-- All that t tells, t' tells under other names. -/
def leT (π : Nat → Nat) : Tr → Tr → Bool
  | .e, _ => true
  | .n l v r, .n l' v' r' => (match v with | none => true | some a => match v' with | some b => eqAV (rn π a) b | none => false) && leT π l l' && leT π r r'
  | .n _ _ _, .e => false
theorem leT_ok {π : Nat → Nat} : ∀ {t t' : Tr}, leT π t t' = true → ∀ i v, t.at i = some v → t'.at i = some (rn π v)
  | .e, _, _, i, v, h => by rw [TB.at_e] at h; cases h
  | .n l a r, .e, hl, i, v, h => by simp [leT] at hl
  | .n l a r, .n l' a' r', hl, i, v, h => by
    simp only [leT, Bool.and_eq_true] at hl
    obtain ⟨⟨h1, h2⟩, h3⟩ := hl
    cases i with
    | zero =>
      rw [TB.at_n0] at h ⊢
      subst h
      cases a' with
      | none => cases h1
      | some b => rw [eqAV_ok _ _ h1]
    | succ p =>
      rw [TB.at_ns] at h ⊢
      split at h
      · rename_i hp; rw [if_pos hp]; exact leT_ok h2 _ _ h
      · rename_i hp; rw [if_neg hp]; exact leT_ok h3 _ _ h
def eqGr : Option Nat → Option Nat → Bool
  | none, none => true
  | some a, some b => Nat.beq a b
  | _, _ => false
theorem eqGr_ok {a b : Option Nat} (h : eqGr a b = true) : a = b := by
  cases a <;> cases b <;> simp [eqGr, Nat.beq_eq] at h <;> first | rfl | rw [h]
def eqBk (a b : Bk) : Bool := eqAVs a.cs b.cs && Nat.beq a.ty b.ty && eqGr a.gr b.gr
theorem eqBk_ok {a b : Bk} (h : eqBk a b = true) : a = b := by
  obtain ⟨a1, a2, a3⟩ := a
  obtain ⟨b1, b2, b3⟩ := b
  simp only [eqBk, Bool.and_eq_true, Nat.beq_eq] at h
  rw [eqAVs_ok _ _ h.1.1, h.1.2, eqGr_ok h.2]
/-- All blocks of the first are blocks of the second, in the same order. -/
def subH : AH → AH → Bool
  | [], _ => true
  | _ :: _, [] => false
  | (k, b) :: C, (j, x) :: H => bif Nat.beq k j then eqBk b x && subH C H else subH ((k, b) :: C) H
theorem subH_ok {ρ : Rho} : ∀ {C H : AH}, subH C H = true → (hl ρ C).Sublist (hl ρ H)
  | [], H, _ => List.nil_sublist _
  | (k, b) :: C, [], h => by simp [subH] at h
  | (k, b) :: C, (j, x) :: H, h => by
    simp only [subH] at h
    cases hb : Nat.beq k j with
    | true =>
      rw [hb] at h; simp only [cond_true, Bool.and_eq_true] at h
      rw [Nat.beq_eq] at hb
      subst hb
      rw [eqBk_ok h.1]
      exact (subH_ok h.2).cons_cons _
    | false =>
      rw [hb] at h
      exact (subH_ok h).trans (List.sublist_cons_self _ _)
/-- The blocks of the first, under other names, are among those of the second. -/
def leH (π : Nat → Nat) : AH → AH → Bool
  | [], _ => true
  | (k, b) :: G, H => match AHfind H (π k) with
    | some x => eqAVs (rnL π b.cs) x.cs && Nat.beq b.ty x.ty && eqGr b.gr x.gr && leH π G (AHdrop H (π k))
    | none => false
theorem hl_perm {ρ : Rho} {k : Nat} {x : Bk} : ∀ {H : AH}, AHfind H k = some x → (hl ρ H).Perm (bxOf ρ k x :: hl ρ (AHdrop H k))
  | [], h => by simp [AHfind] at h
  | (j, y) :: H, h => by
    simp only [AHfind] at h
    simp only [AHdrop]
    cases hb : Nat.beq j k with
    | true => rw [hb] at h; simp only [cond_true, Option.some.injEq] at h; rw [Nat.beq_eq] at hb; subst hb h; exact List.Perm.refl _
    | false =>
      rw [hb] at h
      simp only [cond_false, hl]
      exact ((hl_perm h).cons _).trans (List.Perm.swap _ _ _)
theorem leH_ok {ρ : Rho} {π : Nat → Nat} : ∀ {G H : AH}, leH π G H = true → Gr ρ H → (∃ R, (hl ρ H).Perm (hl (fun k => ρ (π k)) G ++ R)) ∧ Gr (fun k => ρ (π k)) G
  | [], H, _, _ => ⟨⟨hl ρ H, by simp [hl]⟩, fun k b z hm => by cases hm⟩
  | (k, b) :: G, H, h, hg => by
    simp only [leH] at h
    split at h
    · rename_i x hx
      simp only [Bool.and_eq_true, Nat.beq_eq] at h
      obtain ⟨⟨⟨h1, h2⟩, h3⟩, h4⟩ := h
      have hcs := eqAVs_ok _ _ h1
      have hgr := eqGr_ok h3
      obtain ⟨⟨R, hR⟩, hG⟩ := leH_ok (ρ := ρ) h4 (fun i b' z hm hz => hg i b' z (drop_mem hm) hz)
      have eb : bxOf ρ (π k) x = bxOf (fun k => ρ (π k)) k b := by
        simp only [bxOf, ← hcs, shL_rn, ← h2, ← hgr]
      refine ⟨⟨R, ?_⟩, ?_⟩
      · rw [hl, List.cons_append, ← eb]
        exact (hl_perm hx).trans (hR.cons _)
      · intro i b' z hm hz
        rcases List.mem_cons.1 hm with e | hm
        · cases e
          have := hg (π k) x z (find_mem hx) (hgr ▸ hz)
          rw [← hcs, rnL_len] at this
          exact this
        · exact hG i b' z hm hz
    · cases h
end
end Go.Proofs.YtpmjbobgglgnaaaGreatDoor
