/- A part of a region that a slot guards is walked by itself; the ways come together at the choice behind it. -/
import Derived.Test.YtpmjbobgglgnaaaGreatDoorW1
namespace Go.Proofs.YtpmjbobgglgnaaaGreatDoor
open Go.RowKit
set_option linter.unusedVariables false
set_option linter.unusedSimpArgs false
theorem sub_refl {s : Sl} : Sub s s := fun _ _ h => h
theorem sub_skip {s s' : Sl} {d : Nat} {v : Value} (hd : lk s d = none) (H : Sub s s') : Sub s ((d, v) :: s') := fun i u hu => by
  simp only [lk]
  cases hb : (d == i) with
  | true => have := eq_of_beq hb; subst this; rw [hd] at hu; cases hu
  | false => exact H i u hu
section
variable {P : Program} {w0 : World} {n : Nat} {Q : AQ}
theorem AC.app {l2 : List CO} : ∀ (l1 : List CO) (s : Sl) (h : List Bx), AC P w0 n (fun e s' h' => e = .normal ∧ AC P w0 n Q l2 s' h') l1 s h → AC P w0 n Q (l1 ++ l2) s h
  | [], s, h, H => H.2
  | c :: l1, s, h, H => by
    intro D tm W hk hi
    rcases H D tm W hk hi with ⟨hw, s', hk', H'⟩ | ⟨hw, H'⟩
    · exact .inl ⟨hw, s', hk', AC.app l1 s' h H'⟩
    · refine .inr ⟨hw, wp_exits ?_ ?_ (Oper.wp_mono (fun a W' hh => ?_) H')⟩
      · rintro c a w ⟨_, _, _, _, _, e, _⟩; cases e
      · rintro ⟨a, w, hq⟩; exact ⟨a, w, by obtain ⟨_, _, _, _, _, e, _⟩ := hq; cases e⟩
      · obtain ⟨hd, s', h', hk', hi', hq⟩ := hh
        exact ⟨hd, s', h', hk', hi', AC.app l1 s' h' hq⟩
theorem AC.mono {Q' : AQ} (hQ : ∀ s h, Q .normal s h → Q' .normal s h) (hP : ∀ e s h, Q e s h → e = .normal) : ∀ (l : List CO) (s : Sl) (h : List Bx), AC P w0 n Q l s h → AC P w0 n Q' l s h
  | [], s, h, H => hQ s h H
  | c :: l, s, h, H => by
    intro D tm W hk hi
    rcases H D tm W hk hi with ⟨hw, s', hk', H'⟩ | ⟨hw, H'⟩
    · exact .inl ⟨hw, s', hk', AC.mono hQ hP l s' h H'⟩
    · refine .inr ⟨hw, wp_exits ?_ ?_ (Oper.wp_mono (fun a W' hh => ?_) H')⟩
      · rintro c a w ⟨_, _, _, _, _, hq⟩; cases hP _ _ _ hq
      · rintro ⟨a, w, _, _, _, _, _, hq⟩; cases hP _ _ _ hq
      · obtain ⟨hd, s', h', hk', hi', hq⟩ := hh
        exact ⟨hd, s', h', hk', hi', AC.mono hQ hP l s' h' hq⟩
/-- All of them are off, where slot k holds the other truth value. -/
def offB (n : Nat) (s0 : Sl) (k : Nat) (b : Bool) : List Nat → List CO → Bool
  | _, [] => true
  | U, c :: l => (match c.g with | some (some j, b') => (Nat.beq j k && (b == b')) || U.any (Nat.beq j) | _ => false) &&
    (match c.dst with | some d => (lk s0 d).isNone && !Nat.beq d k && Nat.blt d n && offB n s0 k b (d :: U) l | none => offB n s0 k b U l)
theorem AC.off {s0 : Sl} {k : Nat} {b : Bool} {h : List Bx} : ∀ (l : List CO) (U : List Nat) (s : Sl), offB n s0 k b U l = true → lk s k = some (.bool (!b)) → (∀ j ∈ U, lk s j = some undef) → Sub s0 s →
    AC P w0 n (fun e s' h' => e = .normal ∧ h' = h ∧ Sub s0 s') l s h
  | [], U, s, _, _, _, hs => ⟨rfl, rfl, hs⟩
  | c :: l, U, s, hb, hk, hU, hs => by
    obtain ⟨dst, op, ty, g⟩ := c
    simp only [offB, Bool.and_eq_true] at hb
    obtain ⟨hg, hd⟩ := hb
    have hw : Wan s g false := by
      rcases g with _ | ⟨_ | j, b'⟩
      · cases hg
      · cases hg
      · simp only [Bool.or_eq_true, Bool.and_eq_true, Nat.beq_eq, beq_iff_eq, List.any_eq_true] at hg
        rcases hg with ⟨rfl, rfl⟩ | ⟨x, hx, hxj⟩
        · cases b
          · exact wan_offF hk rfl
          · exact wan_offT hk rfl
        · subst hxj; exact wan_undef (hU j hx)
    cases dst with
    | none => exact ac_off0 hw (AC.off l U s hd hk hU hs)
    | some d =>
      simp only [Bool.and_eq_true, Bool.not_eq_true', Option.isNone_iff_eq_none] at hd
      obtain ⟨⟨⟨h1, h2⟩, h3⟩, h4⟩ := hd
      have hne : (d == k) = false := by
        simp only [beq_eq_false_iff_ne, ne_eq]
        intro e; rw [e] at h2; simp at h2
      refine ac_y (y_off hw) h3 (AC.off l (d :: U) ((d, undef) :: s) h4 ?_ ?_ (sub_skip h1 hs))
      · simp only [lk, hne, cond_false]; exact hk
      · intro j hj
        simp only [lk]
        cases hb : (d == j) with
        | true => rfl
        | false =>
          rcases List.mem_cons.1 hj with rfl | hj
          · simp at hb
          · exact hU j hj
/-- What stands ahead of the choice by slot k, the choice, and the rest. -/
def cutAt (k : Nat) : List CO → Option (List CO × CO × List CO)
  | [] => none
  | c :: l => match c.op with
    | .pick (.tmp j) _ _ => bif Nat.beq j k then some ([], c, l) else (match cutAt k l with | some (a, p, r) => some (c :: a, p, r) | none => none)
    | _ => match cutAt k l with | some (a, p, r) => some (c :: a, p, r) | none => none
theorem cutAt_eq {k : Nat} : ∀ {l a : List CO} {p : CO} {r : List CO}, cutAt k l = some (a, p, r) → l = a ++ p :: r
  | [], _, _, _, h => by cases h
  | c :: l, a, p, r, h => by
    have key : (match cutAt k l with | some (a, p, r) => some (c :: a, p, r) | none => none) = some (a, p, r) → c :: l = a ++ p :: r := by
      intro h
      split at h
      · rename_i a' p' r' e
        simp only [Option.some.injEq, Prod.mk.injEq] at h
        obtain ⟨rfl, rfl, rfl⟩ := h
        rw [cutAt_eq e]; rfl
      · cases h
    unfold cutAt at h
    split at h
    · rename_i j _ _ _
      cases hj : Nat.beq j k with
      | true => rw [hj] at h; simp only [cond_true, Option.some.injEq, Prod.mk.injEq] at h; obtain ⟨rfl, rfl, rfl⟩ := h; rfl
      | false => rw [hj] at h; exact key h
    · exact key h
theorem ac_part {l1 rest : List CO} {k d : Nat} {b c0 : Bool} {x z : Operand} {op : Op} {ty ty0 : TypeId} {g0 : Option (Option Tmp × Bool)} {dd : Option Tmp} {s : Sl} {h : List Bx} {v : Value} {c : CO} {l : List CO} (hs : lk s k = some (.bool c0))
    (hcut : cutAt k (⟨dd, op, ty0, some (some k, b)⟩ :: l) = some (l1, ⟨some d, .pick (.tmp k) x z, ty, g0⟩, rest)) (hd : Nat.blt d n = true) (hw : Wan s g0 true)
    (hoff : offB n s k b [] l1 = true)
    (H1 : c0 = b → AC P w0 n (fun e s' h' => e = .normal ∧ h' = h ∧ Sub s s' ∧ ev s' (if b then x else z) = some v) l1 s h)
    (H0 : c0 = !b → ev s (if b then z else x) = some v)
    (H2 : AC P w0 n Q rest ((d, v) :: s) h) : AC P w0 n Q (⟨dd, op, ty0, some (some k, b)⟩ :: l) s h := by
  rw [cutAt_eq hcut]
  apply AC.app
  have last : ∀ s', Sub s s' → ev s' (if c0 then x else z) = some v → AC P w0 n Q (⟨some d, .pick (.tmp k) x z, ty, g0⟩ :: rest) s' h := by
    intro s' hsub he D tm W hk hi
    have hk0 : Knows n s tm := hk.sub hsub
    have hc : Act.eval ⟨tm, []⟩ (.tmp k) = .bool c0 := ev_ok hk0 (show ev s (.tmp k) = _ from hs)
    refine .inr ⟨hw n tm hk0, ?_⟩
    have e : (execOp (Act.eval ⟨tm, []⟩) (CO.oper ⟨some d, .pick (.tmp k) x z, ty, g0⟩)).run P W = .ok (.value v) W := by
      have := ev_ok (ds := []) hk he
      simp only [execOp, CO.oper, hc, asBool]
      rw [← this]
      cases c0 <;> rfl
    simp only [Oper.wp, ev_defers tm D, e, Oper.upon]
    rw [show (CO.oper ⟨some d, .pick (.tmp k) x z, ty, g0⟩).dst = some d from rfl, put_eq]
    exact ⟨rfl, _, h, hk0.put hd, hi, H2⟩
  by_cases hb : c0 = b
  · refine AC.mono (fun s' h' hq => ?_) (fun _ _ _ hq => hq.1) l1 s h (H1 hb)
    obtain ⟨_, rfl, hsub, he⟩ := hq
    exact ⟨rfl, last s' hsub (by rw [hb]; exact he)⟩
  · have hb' : c0 = !b := by cases c0 <;> cases b <;> simp_all
    refine AC.mono (fun s' h' hq => ?_) (fun _ _ _ hq => hq.1) l1 s h (AC.off (h := h) l1 [] s hoff (by rw [hs, hb']) (by simp) sub_refl)
    obtain ⟨_, rfl, hsub⟩ := hq
    refine ⟨rfl, last s' hsub ?_⟩
    have h0 := H0 hb'
    have : (if c0 then x else z) = (if b then z else x) := by rw [hb']; cases b <;> rfl
    rw [this]
    generalize (if b then z else x) = o at h0 ⊢
    cases o with
    | tmp i => exact hsub i _ h0
    | const u => exact h0
    | global g => exact h0
    | func f => exact h0
end
theorem RemL.pre {hb h h' : List Bx} (H : RemL hb h h') : ∀ b : List Bx, RemL hb (b ++ h) (b ++ h')
  | [] => H
  | x :: b => .tail x (RemL.pre H b)
/-- A join that tells what is known by a parameter. -/
theorem aw_joinE {w0 : World} {n : Nat} {Q : AQ} {s : Sl} {h : List Bx} {c : Code} {K : Sl → List Bx → Prop} {α : Type} (S : α → Sl) (B : α → List Bx) (R : α → Prop)
    (H1 : AW Tryz.prog w0 n c (aThen (fun s' h' => ∃ a, R a ∧ Sub (S a) s' ∧ (B a).Sublist h') Q) s h) (H2 : ∀ a, R a → ∀ s' h', Sub (S a) s' → (B a).Sublist h' → K s' h') : AW Tryz.prog w0 n c (aThen K Q) s h :=
  fun D tm W hk hi => wp_mono (H1 D tm W hk hi) fun e a W' ⟨s', h', h1, h2, h3, h4⟩ => ⟨s', h', h1, h2, h3, by
    cases e with
    | normal => obtain ⟨a, hR, hs, hb⟩ := h4; exact H2 a hR s' h' hs hb
    | _ => exact h4⟩
section
variable {w0 : World} {n : Nat} {Q : AQ} {s : Sl} {h : List Bx}
/-- The end of a part: its truth value. -/
theorem zq {sa s' : Sl} {b v : Bool} {o : Operand} (he : ev s' o = some (.bool b) := by exact rfl) (hb : b = v := by exact rfl) (hs : Sub sa s' := by (repeat (first | exact sub_refl | refine sub_skip rfl ?_))) : Exit.normal = Exit.normal ∧ h = h ∧ Sub sa s' ∧ ev s' o = some (.bool v) := ⟨rfl, rfl, hs, hb ▸ he⟩
/-- 'a && b'. -/
theorem zand {l1 rest l : List CO} {k d : Nat} {c0 v : Bool} {y : Operand} {op : Op} {ty ty0 : TypeId} {g0 : Option (Option Tmp × Bool)} {dd : Option Tmp} (hs : lk s k = some (.bool c0) := by exact rfl)
    (hcut : cutAt k (⟨dd, op, ty0, some (some k, true)⟩ :: l) = some (l1, ⟨some d, .pick (.tmp k) y (.const (.bool false)), ty, g0⟩, rest) := by exact rfl) (hd : Nat.blt d n = true := by exact rfl) (hw : Wan s g0 true := by exact zW)
    (hoff : offB n s k true [] l1 = true := by exact rfl) (H1 : c0 = true → AC Tryz.prog w0 n (fun e s' h' => e = .normal ∧ h' = h ∧ Sub s s' ∧ ev s' y = some (.bool v)) l1 s h) (H2 : AC Tryz.prog w0 n Q rest ((d, .bool (c0 && v)) :: s) h) :
    AC Tryz.prog w0 n Q (⟨dd, op, ty0, some (some k, true)⟩ :: l) s h :=
  ac_part (c := ⟨none, op, 0, none⟩) hs hcut hd hw hoff (fun e => AC.mono (fun s' h' hq => ⟨hq.1, hq.2.1, hq.2.2.1, by rw [if_pos rfl, e, Bool.true_and]; exact hq.2.2.2⟩) (fun _ _ _ hq => hq.1) _ _ _ (H1 e)) (fun e => by rw [if_pos rfl, e]; rfl) H2
/-- 'a || b'. -/
theorem zor {l1 rest l : List CO} {k d : Nat} {c0 v : Bool} {y : Operand} {op : Op} {ty ty0 : TypeId} {g0 : Option (Option Tmp × Bool)} {dd : Option Tmp} (hs : lk s k = some (.bool c0) := by exact rfl)
    (hcut : cutAt k (⟨dd, op, ty0, some (some k, false)⟩ :: l) = some (l1, ⟨some d, .pick (.tmp k) (.const (.bool true)) y, ty, g0⟩, rest) := by exact rfl) (hd : Nat.blt d n = true := by exact rfl) (hw : Wan s g0 true := by exact zW)
    (hoff : offB n s k false [] l1 = true := by exact rfl) (H1 : c0 = false → AC Tryz.prog w0 n (fun e s' h' => e = .normal ∧ h' = h ∧ Sub s s' ∧ ev s' y = some (.bool v)) l1 s h) (H2 : AC Tryz.prog w0 n Q rest ((d, .bool (c0 || v)) :: s) h) :
    AC Tryz.prog w0 n Q (⟨dd, op, ty0, some (some k, false)⟩ :: l) s h :=
  ac_part (c := ⟨none, op, 0, none⟩) hs hcut hd hw hoff (fun e => AC.mono (fun s' h' hq => ⟨hq.1, hq.2.1, hq.2.2.1, by rw [if_neg (by decide), e, Bool.false_or]; exact hq.2.2.2⟩) (fun _ _ _ hq => hq.1) _ _ _ (H1 e)) (fun e => by rw [if_neg (by decide), e]; rfl) H2
end
end Go.Proofs.YtpmjbobgglgnaaaGreatDoor
