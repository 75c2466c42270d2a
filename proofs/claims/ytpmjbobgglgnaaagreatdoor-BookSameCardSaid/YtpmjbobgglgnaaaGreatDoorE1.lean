/- Closed calls that the kernel carries out: the values, the slots, the blocks. -/
import Derived.Test.YtpmjbobgglgnaaaGreatDoorV1
namespace Go.Proofs.YtpmjbobgglgnaaaGreatDoor
noncomputable section
open Go.RowKit
set_option linter.unusedVariables false
/-- A value of a closed call; a block is told by its name. -/
inductive AV where
  | bool (b : Bool)
  | int (k : IntKind) (n : Int)
  | str (xs : List UInt8)
  | nilp
  | ptr (k o : Nat)
  | glob (g o : Nat)
  | nils
  | sli (k o len : Nat) (kn : Bool) (c : Nat)
  | emp (k : Nat)
  | fn (f : Nat) (a c : List AV)
  | nilf
  | nili
  | iface (t : Nat) (v : AV)
  | agg (cs : List AV)
  | tup (vs : List AV)
  | und
/-- What a name stands for: a block, its room, what lies behind the cells that are known. -/
structure RB where
  g : Nat
  cap : Nat
  tl : List Value
  a : Option Addr
abbrev Rho := Nat → RB
mutual
def sh (ρ : Rho) : AV → Value
  | .bool b => .bool b
  | .int k n => .int k n
  | .str xs => .string ⟨⟨xs⟩⟩
  | .nilp => .pointer none
  | .ptr k o => .pointer (some ⟨(ρ k).g, o, none⟩)
  | .glob g o => .pointer (some ⟨g, o, none⟩)
  | .nils => .slice none 0 0
  | .sli k o len kn c => .slice (some ⟨(ρ k).g, o, none⟩) len (if kn then c else (ρ k).cap - c)
  | .emp k => .slice (ρ k).a 0 (ρ k).cap
  | .fn f a c => .func (.func f) (shL ρ a).toArray (shL ρ c).toArray
  | .nilf => .nilFunc
  | .nili => .nilIface
  | .iface t v => .iface t (sh ρ v)
  | .agg cs => .agg (shL ρ cs).toArray
  | .tup vs => .tuple (shL ρ vs).toArray
  | .und => undef
def shL (ρ : Rho) : List AV → List Value
  | [] => []
  | v :: vs => sh ρ v :: shL ρ vs
end
theorem shL_map (ρ : Rho) : ∀ vs : List AV, shL ρ vs = vs.map (sh ρ)
  | [] => by simp [shL]
  | v :: vs => by simp [shL, shL_map ρ vs]
mutual
/-- All names are below c. -/
def bd (c : Nat) : AV → Bool
  | .ptr k _ => Nat.blt k c
  | .sli k _ _ _ _ => Nat.blt k c
  | .emp k => Nat.blt k c
  | .fn _ a x => bdL c a && bdL c x
  | .iface _ v => bd c v
  | .agg cs => bdL c cs
  | .tup vs => bdL c vs
  | _ => true
def bdL (c : Nat) : List AV → Bool
  | [] => true
  | v :: vs => bd c v && bdL c vs
end
/-- The same, quicker. -/
def bdR (c : Nat) (v : AV) : Bool :=
  AV.rec (motive_1 := fun _ => Bool) (motive_2 := fun _ => Bool) (fun _ => true) (fun _ _ => true) (fun _ => true) true (fun k _ => Nat.blt k c) (fun _ _ => true) true (fun k _ _ _ _ => Nat.blt k c) (fun k => Nat.blt k c)
    (fun _ _ _ h1 h2 => and h1 h2) true true (fun _ _ h => h) (fun _ h => h) (fun _ h => h) true true (fun _ _ h1 h2 => and h1 h2) v
def bdRL (c : Nat) (v : List AV) : Bool :=
  AV.rec_1 (motive_1 := fun _ => Bool) (motive_2 := fun _ => Bool) (fun _ => true) (fun _ _ => true) (fun _ => true) true (fun k _ => Nat.blt k c) (fun _ _ => true) true (fun k _ _ _ _ => Nat.blt k c) (fun k => Nat.blt k c)
    (fun _ _ _ h1 h2 => and h1 h2) true true (fun _ _ h => h) (fun _ h => h) (fun _ h => h) true true (fun _ _ h1 h2 => and h1 h2) v
mutual
theorem bdR_eq (c : Nat) : ∀ v : AV, bdR c v = bd c v
  | .bool _ => by simp only [bd]; rfl
  | .int _ _ => by simp only [bd]; rfl
  | .str _ => by simp only [bd]; rfl
  | .nilp => by simp only [bd]; rfl
  | .ptr k o => by simp only [bd]; rfl
  | .glob _ _ => by simp only [bd]; rfl
  | .nils => by simp only [bd]; rfl
  | .sli k o l kn q => by simp only [bd]; rfl
  | .emp k => by simp only [bd]; rfl
  | .fn f a x => by rw [bd, ← bdRL_eq c a, ← bdRL_eq c x]; rfl
  | .nilf => by simp only [bd]; rfl
  | .nili => by simp only [bd]; rfl
  | .iface t v => by rw [bd, ← bdR_eq c v]; rfl
  | .agg cs => by rw [bd, ← bdRL_eq c cs]; rfl
  | .tup vs => by rw [bd, ← bdRL_eq c vs]; rfl
  | .und => by simp only [bd]; rfl
theorem bdRL_eq (c : Nat) : ∀ vs : List AV, bdRL c vs = bdL c vs
  | [] => by simp only [bdL]; rfl
  | v :: vs => by rw [bdL, ← bdR_eq c v, ← bdRL_eq c vs]; rfl
end
def Agree (c : Nat) (ρ ρ' : Rho) : Prop := ∀ k, k < c → ρ' k = ρ k
theorem Agree.refl (c : Nat) (ρ : Rho) : Agree c ρ ρ := fun _ _ => rfl
theorem Agree.mono {c c' : Nat} {ρ ρ' : Rho} (H : Agree c' ρ ρ') (h : c ≤ c') : Agree c ρ ρ' := fun k hk => H k (by omega)
theorem Agree.trans {c c' : Nat} {ρ ρ' ρ'' : Rho} (H : Agree c ρ ρ') (H' : Agree c' ρ' ρ'') (h : c ≤ c') : Agree c ρ ρ'' := fun k hk => (H' k (by omega)).trans (H k hk)
mutual
theorem sh_agree {c : Nat} {ρ ρ' : Rho} (H : Agree c ρ ρ') : ∀ v : AV, bd c v = true → sh ρ' v = sh ρ v
  | .bool _, _ => by simp [sh]
  | .int _ _, _ => by simp [sh]
  | .str _, _ => by simp [sh]
  | .nilp, _ => by simp [sh]
  | .ptr k o, h => by simp [bd, Nat.blt_eq] at h; simp [sh, H k h]
  | .glob _ _, _ => by simp [sh]
  | .nils, _ => by simp [sh]
  | .sli k o l kn q, h => by simp [bd, Nat.blt_eq] at h; simp [sh, H k h]
  | .emp k, h => by simp [bd, Nat.blt_eq] at h; simp [sh, H k h]
  | .fn f a x, h => by simp [bd] at h; simp [sh, shL_agree H a h.1, shL_agree H x h.2]
  | .nilf, _ => by simp [sh]
  | .nili, _ => by simp [sh]
  | .iface t v, h => by simp [bd] at h; simp [sh, sh_agree H v h]
  | .agg cs, h => by simp [bd] at h; simp [sh, shL_agree H cs h]
  | .tup vs, h => by simp [bd] at h; simp [sh, shL_agree H vs h]
  | .und, _ => by simp [sh]
theorem shL_agree {c : Nat} {ρ ρ' : Rho} (H : Agree c ρ ρ') : ∀ vs : List AV, bdL c vs = true → shL ρ' vs = shL ρ vs
  | [], _ => by simp [shL]
  | v :: vs, h => by simp [bdL] at h; simp [shL, sh_agree H v h.1, shL_agree H vs h.2]
end
mutual
theorem bd_mono {c c' : Nat} (H : c ≤ c') : ∀ v : AV, bd c v = true → bd c' v = true
  | .bool _, _ => rfl
  | .int _ _, _ => rfl
  | .str _, _ => rfl
  | .nilp, _ => rfl
  | .ptr k o, h => by simp [bd, Nat.blt_eq] at h ⊢; omega
  | .glob _ _, _ => rfl
  | .nils, _ => rfl
  | .sli k o l kn q, h => by simp [bd, Nat.blt_eq] at h ⊢; omega
  | .emp k, h => by simp [bd, Nat.blt_eq] at h ⊢; omega
  | .fn f a x, h => by simp [bd] at h ⊢; exact ⟨bdL_mono H a h.1, bdL_mono H x h.2⟩
  | .nilf, _ => rfl
  | .nili, _ => rfl
  | .iface t v, h => by simp [bd] at h ⊢; exact bd_mono H v h
  | .agg cs, h => by simp [bd] at h ⊢; exact bdL_mono H cs h
  | .tup vs, h => by simp [bd] at h ⊢; exact bdL_mono H vs h
  | .und, _ => rfl
theorem bdL_mono {c c' : Nat} (H : c ≤ c') : ∀ vs : List AV, bdL c vs = true → bdL c' vs = true
  | [], _ => rfl
  | v :: vs, h => by simp [bdL] at h ⊢; exact ⟨bd_mono H v h.1, bdL_mono H vs h.2⟩
end

/-! ### Slots: a tree of binary digits -/
inductive TB (α : Type) where
  | e
  | n (l : TB α) (v : Option α) (r : TB α)
abbrev Tr := TB AV
section
variable {α : Type}
def TB.at (t : TB α) (i : Nat) : Option α :=
  TB.rec (motive := fun _ => Nat → Option α) (fun _ => none) (fun _ v _ hl hr i => Nat.rec v (fun p _ => Bool.rec (hr (Nat.div p 2)) (hl (Nat.div p 2)) (Nat.beq (Nat.mod p 2) 0)) i) t i
def TB.mk (x : α) (f : Nat) : Nat → TB α :=
  Nat.rec (motive := fun _ => Nat → TB α) (fun _ => .e) (fun _ h i => Nat.rec (.n .e (some x) .e) (fun p _ => Bool.rec (.n .e none (h (Nat.div p 2))) (.n (h (Nat.div p 2)) none .e) (Nat.beq (Nat.mod p 2) 0)) i) f
def TB.put (t : TB α) (i : Nat) (x : α) : TB α :=
  TB.rec (motive := fun _ => Nat → TB α) (fun i => TB.mk x 10 i) (fun l v r hl hr i => Nat.rec (.n l (some x) r) (fun p _ => Bool.rec (.n l v (hr (Nat.div p 2))) (.n (hl (Nat.div p 2)) v r) (Nat.beq (Nat.mod p 2) 0)) i) t i
theorem TB.at_e (i : Nat) : (TB.e : TB α).at i = none := rfl
theorem TB.at_n0 (l r : TB α) (v : Option α) : (TB.n l v r).at 0 = v := rfl
theorem TB.at_ns (l r : TB α) (v : Option α) (p : Nat) : (TB.n l v r).at (p + 1) = if p % 2 = 0 then l.at (p / 2) else r.at (p / 2) := by
  show Bool.rec (motive := fun _ => Option α) (r.at (p / 2)) (l.at (p / 2)) (Nat.beq (p % 2) 0) = _
  by_cases h : p % 2 = 0
  · rw [if_pos h, show Nat.beq (p % 2) 0 = true by rw [Nat.beq_eq]; exact h]
  · rw [if_neg h, show Nat.beq (p % 2) 0 = false by rw [Bool.eq_false_iff]; simpa [Nat.beq_eq] using h]
theorem TB.mk_0 (x : α) (f : Nat) : TB.mk x (f + 1) 0 = .n .e (some x) .e := rfl
theorem TB.mk_s (x : α) (f p : Nat) : TB.mk x (f + 1) (p + 1) = if p % 2 = 0 then .n (TB.mk x f (p / 2)) none .e else .n .e none (TB.mk x f (p / 2)) := by
  show Bool.rec (motive := fun _ => TB α) (.n .e none (TB.mk x f (p / 2))) (.n (TB.mk x f (p / 2)) none .e) (Nat.beq (p % 2) 0) = _
  by_cases h : p % 2 = 0
  · rw [if_pos h, show Nat.beq (p % 2) 0 = true by rw [Nat.beq_eq]; exact h]
  · rw [if_neg h, show Nat.beq (p % 2) 0 = false by rw [Bool.eq_false_iff]; simpa [Nat.beq_eq] using h]
theorem TB.put_0 (l r : TB α) (v : Option α) (x : α) : (TB.n l v r).put 0 x = .n l (some x) r := rfl
theorem TB.put_s (l r : TB α) (v : Option α) (x : α) (p : Nat) : (TB.n l v r).put (p + 1) x = if p % 2 = 0 then .n (l.put (p / 2) x) v r else .n l v (r.put (p / 2) x) := by
  show Bool.rec (motive := fun _ => TB α) (.n l v (r.put (p / 2) x)) (.n (l.put (p / 2) x) v r) (Nat.beq (p % 2) 0) = _
  by_cases h : p % 2 = 0
  · rw [if_pos h, show Nat.beq (p % 2) 0 = true by rw [Nat.beq_eq]; exact h]
  · rw [if_neg h, show Nat.beq (p % 2) 0 = false by rw [Bool.eq_false_iff]; simpa [Nat.beq_eq] using h]
theorem TB.at_mk (x : α) : ∀ (f i j : Nat), i + 1 < 2 ^ f → (TB.mk x f i).at j = if i = j then some x else none
  | 0, _, _, h => by simp at h
  | f + 1, 0, 0, _ => rfl
  | f + 1, 0, j + 1, _ => by rw [TB.mk_0, TB.at_ns]; simp [TB.at_e]
  | f + 1, p + 1, 0, h => by rw [TB.mk_s]; split <;> simp [TB.at_n0]
  | f + 1, p + 1, j + 1, h => by
    simp only [Nat.pow_succ] at h
    have ih := TB.at_mk x f (p / 2) (j / 2) (by omega)
    rw [TB.mk_s]
    by_cases h1 : p % 2 = 0 <;> by_cases h2 : j % 2 = 0
    · rw [if_pos h1, TB.at_ns, if_pos h2, ih]
      have : (p / 2 = j / 2) = (p + 1 = j + 1) := by apply propext; constructor <;> intro h <;> omega
      simp only [this]
    · rw [if_pos h1, TB.at_ns, if_neg h2, TB.at_e, if_neg (by omega)]
    · rw [if_neg h1, TB.at_ns, if_pos h2, TB.at_e, if_neg (by omega)]
    · rw [if_neg h1, TB.at_ns, if_neg h2, ih]
      have : (p / 2 = j / 2) = (p + 1 = j + 1) := by apply propext; constructor <;> intro h <;> omega
      simp only [this]
theorem TB.at_put (t : TB α) (i j : Nat) (x : α) (hi : i < 1023) : (t.put i x).at j = if i = j then some x else t.at j := by
  induction t generalizing i j with
  | e => rw [show (TB.e : TB α).put i x = TB.mk x 10 i from rfl, TB.at_e, TB.at_mk x 10 i j (by omega)]
  | n l v r hl hr =>
    cases i with
    | zero =>
      rw [TB.put_0]
      cases j with
      | zero => simp [TB.at_n0]
      | succ j => rw [TB.at_ns, TB.at_ns]; simp
    | succ p =>
      rw [TB.put_s]
      cases j with
      | zero => split <;> simp [TB.at_n0]
      | succ j =>
        have e : (p / 2 = j / 2 ∧ p % 2 = j % 2) ↔ (p + 1 = j + 1) := by constructor <;> intro h <;> omega
        by_cases h1 : p % 2 = 0 <;> by_cases h2 : j % 2 = 0
        · rw [if_pos h1, TB.at_ns, if_pos h2, hl _ _ (by omega), TB.at_ns, if_pos h2]
          have : (p / 2 = j / 2) = (p + 1 = j + 1) := by apply propext; constructor <;> intro h <;> omega
          simp only [this]
        · rw [if_pos h1, TB.at_ns, if_neg h2, TB.at_ns, if_neg h2, if_neg (by omega)]
        · rw [if_neg h1, TB.at_ns, if_pos h2, TB.at_ns, if_pos h2, if_neg (by omega)]
        · rw [if_neg h1, TB.at_ns, if_neg h2, hr _ _ (by omega), TB.at_ns, if_neg h2]
          have : (p / 2 = j / 2) = (p + 1 = j + 1) := by apply propext; constructor <;> intro h <;> omega
          simp only [this]
/-- A table as a tree. -/
def TB.ofL : List (Nat × α) → TB α
  | [] => .e
  | (i, v) :: l => (TB.ofL l).put i v
def lkG : List (Nat × α) → Nat → Option α
  | [], _ => none
  | (i, v) :: l, j => bif Nat.beq i j then some v else lkG l j
theorem TB.at_ofL (j : Nat) : ∀ {l : List (Nat × α)}, l.all (fun x => Nat.blt x.1 1023) = true → (TB.ofL l).at j = lkG l j
  | [], _ => rfl
  | (i, v) :: l, h => by
    simp only [List.all_cons, Bool.and_eq_true, Nat.blt_eq] at h
    simp only [TB.ofL, lkG]
    rw [TB.at_put _ _ _ _ h.1, TB.at_ofL j h.2]
    by_cases e : i = j
    · subst e; simp [Nat.beq_refl]
    · rw [if_neg e, show Nat.beq i j = false from by rw [Bool.eq_false_iff]; simpa [Nat.beq_eq] using e]; rfl
end
/-- The slots, as they are told. -/
def Kn (ρ : Rho) (t : Tr) (s : Sl) : Prop := ∀ i v, t.at i = some v → lk s i = some (sh ρ v)
theorem Kn.put {ρ : Rho} {t : Tr} {s : Sl} {d : Nat} {v : AV} (H : Kn ρ t s) (hd : d < 1023) : Kn ρ (t.put d v) ((d, sh ρ v) :: s) := fun i u hu => by
  rw [TB.at_put _ _ _ _ hd] at hu
  simp only [lk]
  cases hb : (d == i) with
  | true => have := eq_of_beq hb; subst this; simp at hu; simp [hu]
  | false =>
    have hne : d ≠ i := ne_of_beq_false hb
    rw [if_neg hne] at hu
    simp only [cond_false]; exact H i u hu
/-- All slots are below c. -/
def TBd (c : Nat) (t : Tr) : Prop := ∀ i v, t.at i = some v → bd c v = true
theorem TBd.put {c : Nat} {t : Tr} {d : Nat} {v : AV} (H : TBd c t) (hd : d < 1023) (hv : bd c v = true) : TBd c (t.put d v) := fun i u hu => by
  rw [TB.at_put _ _ _ _ hd] at hu
  split at hu
  · cases hu; exact hv
  · exact H i u hu
theorem TBd.mono {c c' : Nat} {t : Tr} (H : TBd c t) (h : c ≤ c') : TBd c' t := fun i v hv => bd_mono h v (H i v hv)
theorem Kn.agree {c : Nat} {ρ ρ' : Rho} {t : Tr} {s : Sl} (A : Agree c ρ ρ') (ht : TBd c t) (H : Kn ρ t s) : Kn ρ' t s := fun i v hv => by
  rw [sh_agree A v (ht i v hv)]; exact H i v hv

/-! ### Blocks -/
structure Bk where
  cs : List AV
  ty : TypeId
  gr : Option Nat
abbrev AH := List (Nat × Bk)
def bxOf (ρ : Rho) (k : Nat) (b : Bk) : Bx := ⟨(ρ k).g, (shL ρ b.cs ++ (if b.gr.isSome then (ρ k).tl else [])).toArray, b.ty⟩
def hl (ρ : Rho) : AH → List Bx
  | [] => []
  | (k, b) :: H => bxOf ρ k b :: hl ρ H
def AHfind : AH → Nat → Option Bk
  | [], _ => none
  | (k, b) :: H, j => bif Nat.beq k j then some b else AHfind H j
def AHput : AH → Nat → List AV → AH
  | [], _, _ => []
  | (k, b) :: H, j, cs => bif Nat.beq k j then (k, ⟨cs, b.ty, b.gr⟩) :: H else (k, b) :: AHput H j cs
def AHdrop : AH → Nat → AH
  | [], _ => []
  | (k, b) :: H, j => bif Nat.beq k j then H else (k, b) :: AHdrop H j
def HBd (c : Nat) (H : AH) : Prop := ∀ k b, (k, b) ∈ H → k < c ∧ bdL c b.cs = true
theorem find_mem {k : Nat} {b : Bk} : ∀ {H : AH}, AHfind H k = some b → (k, b) ∈ H
  | [], h => by simp [AHfind] at h
  | (j, x) :: H, h => by
    simp only [AHfind] at h
    cases hb : Nat.beq j k with
    | true => rw [hb] at h; simp only [cond_true, Option.some.injEq] at h; rw [Nat.beq_eq] at hb; subst hb h; simp
    | false => rw [hb] at h; exact List.mem_cons_of_mem _ (find_mem h)
theorem hl_mem {ρ : Rho} {k : Nat} {b : Bk} : ∀ {H : AH}, (k, b) ∈ H → bxOf ρ k b ∈ hl ρ H
  | [], h => by cases h
  | (j, x) :: H, h => by
    rcases List.mem_cons.1 h with e | h
    · cases e; exact List.mem_cons_self
    · exact List.mem_cons_of_mem _ (hl_mem h)
theorem hl_put {ρ : Rho} {k : Nat} {b : Bk} {cs : List AV} : ∀ {H : AH}, AHfind H k = some b →
    Upd (ρ k).g b.ty (bxOf ρ k b).cs (bxOf ρ k ⟨cs, b.ty, b.gr⟩).cs (hl ρ H) (hl ρ (AHput H k cs))
  | [], h => by simp [AHfind] at h
  | (j, x) :: H, h => by
    simp only [AHfind] at h
    simp only [AHput]
    cases hb : Nat.beq j k with
    | true => rw [hb] at h; simp only [cond_true, Option.some.injEq] at h; rw [Nat.beq_eq] at hb; subst hb h; exact Upd.head _
    | false => rw [hb] at h; exact Upd.tail _ (hl_put h)
theorem Upd.app {g : Nat} {t : TypeId} {cs cs' : Array Value} {h h' : List Bx} (H : Upd g t cs cs' h h') (q : List Bx) : Upd g t cs cs' (h ++ q) (h' ++ q) := by
  induction H with
  | head h => exact Upd.head _
  | tail b _ ih => exact Upd.tail _ ih
theorem HBd.put {c k : Nat} {cs : List AV} (hc : bdL c cs = true) : ∀ {H : AH}, HBd c H → HBd c (AHput H k cs)
  | [], _ => fun _ _ h => by cases h
  | (j, x) :: H, hH => fun i b hm => by
    simp only [AHput] at hm
    cases hb : Nat.beq j k with
    | true =>
      rw [hb] at hm; simp only [cond_true] at hm
      rcases List.mem_cons.1 hm with e | hm
      · cases e; exact ⟨(hH j x (by simp)).1, hc⟩
      · exact hH i b (List.mem_cons_of_mem _ hm)
    | false =>
      rw [hb] at hm; simp only [cond_false] at hm
      rcases List.mem_cons.1 hm with e | hm
      · cases e; exact hH j x (by simp)
      · exact HBd.put hc (fun i b h => hH i b (List.mem_cons_of_mem _ h)) i b hm
theorem HBd.mono {c c' : Nat} {H : AH} (h : HBd c H) (hc : c ≤ c') : HBd c' H := fun k b hm => ⟨Nat.lt_of_lt_of_le (h k b hm).1 hc, bdL_mono hc _ (h k b hm).2⟩
theorem hl_agree {c : Nat} {ρ ρ' : Rho} (A : Agree c ρ ρ') : ∀ {H : AH}, HBd c H → hl ρ' H = hl ρ H
  | [], _ => rfl
  | (j, x) :: H, hH => by
    have h1 := hH j x (by simp)
    simp only [hl, bxOf, A j h1.1, shL_agree A _ h1.2, hl_agree A (H := H) fun i b h => hH i b (List.mem_cons_of_mem _ h)]
/-- The room of the blocks that grow. -/
def Gr (ρ : Rho) (H : AH) : Prop := ∀ k b z, (k, b) ∈ H → b.gr = some z → b.cs.length + (ρ k).tl.length = (ρ k).cap * z
theorem Gr.agree {c : Nat} {ρ ρ' : Rho} {H : AH} (A : Agree c ρ ρ') (hH : HBd c H) (h : Gr ρ H) : Gr ρ' H := fun k b z hm hg => by
  rw [A k (hH k b hm).1]; exact h k b z hm hg
def AHkeep (c : Nat) : AH → AH
  | [] => []
  | (k, b) :: H => bif Nat.blt k c then (k, b) :: AHkeep c H else AHkeep c H
theorem keep_mem {c k : Nat} {b : Bk} : ∀ {H : AH}, (k, b) ∈ AHkeep c H → (k, b) ∈ H
  | [], h => h
  | (j, x) :: H, h => by
    simp only [AHkeep] at h
    cases hb : Nat.blt j c with
    | true =>
      rw [hb] at h; simp only [cond_true] at h
      rcases List.mem_cons.1 h with e | h
      · exact e ▸ List.mem_cons_self
      · exact List.mem_cons_of_mem _ (keep_mem h)
    | false => rw [hb] at h; exact List.mem_cons_of_mem _ (keep_mem h)
theorem hl_keep {ρ : Rho} {c : Nat} : ∀ {H : AH}, (hl ρ (AHkeep c H)).Sublist (hl ρ H)
  | [] => List.Sublist.refl _
  | (j, x) :: H => by
    simp only [AHkeep]
    cases Nat.blt j c with
    | true => exact (hl_keep (H := H)).cons_cons _
    | false => exact (hl_keep (H := H)).trans (List.sublist_cons_self _ _)
theorem hl_drop {ρ : Rho} {k : Nat} : ∀ {H : AH}, (hl ρ (AHdrop H k)).Sublist (hl ρ H)
  | [] => List.Sublist.refl _
  | (j, x) :: H => by
    simp only [AHdrop]
    cases Nat.beq j k with
    | true => exact List.sublist_cons_self _ _
    | false => exact (hl_drop (H := H)).cons_cons _
end
end Go.Proofs.YtpmjbobgglgnaaaGreatDoor
