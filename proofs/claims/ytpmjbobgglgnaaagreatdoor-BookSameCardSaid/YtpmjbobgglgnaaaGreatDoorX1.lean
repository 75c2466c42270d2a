/- Drawn regions, told of one world: what a call has made there (a map) is still known behind it. -/
import Derived.Test.YtpmjbobgglgnaaaGreatDoorW2
namespace Go.Proofs.YtpmjbobgglgnaaaGreatDoor
open Go.RowKit
set_option linter.unusedVariables false
set_option linter.unusedSimpArgs false
section
variable {P : Program} {w0 : World} {n : Nat} {D : List Deferred} {ops : Array Oper} {Q : AQ} {hc : List Bx}
def AnyX (P : Program) (w0 : World) (n : Nat) (D : List Deferred) (ops : Array Oper) (Q : AQ) (hc : List Bx) : Nat → Array Bool → Array Value → List Bx → World → Prop
  | 0, listed, tm, h, W => Region.ready .any ops listed = [] ∧ ∃ s h', Knows n s tm ∧ Inv w0 h' W ∧ Q .normal s h'
  | fuel + 1, listed, tm, h, W => (Region.ready .any ops listed = [] → ∃ s h', Knows n s tm ∧ Inv w0 h' W ∧ Q .normal s h') ∧
    ∀ j ∈ Region.ready .any ops listed, wpOp P ops (post w0 n D Q) j (fun a' W' => a'.defers = D ∧ ∃ h', Inv w0 h' W' ∧ hc.Sublist h' ∧ AnyX P w0 n D ops Q hc fuel (listed.setIfInBounds j true) a'.tmps h' W') ⟨tm, D⟩ W
theorem AnyX.sound : ∀ (fuel : Nat) (listed : Array Bool) (tm : Array Value) (h : List Bx) (W : World), AnyX P w0 n D ops Q hc fuel listed tm h W → wpAny P .any ops (post w0 n D Q) fuel listed ⟨tm, D⟩ W
  | 0, _, _, h, _, ⟨h1, s, h', hk, hi, hq⟩ => ⟨h1, s, h', hk, hi, rfl, hq⟩
  | fuel + 1, _, _, h, W, H => ⟨fun e => by obtain ⟨s, h', hk, hi, hq⟩ := H.1 e; exact ⟨s, h', hk, hi, rfl, hq⟩, fun i hm => wpOp_mono (fun a' W' ⟨hd, h', hi', _, H'⟩ => by
    obtain ⟨tm', ds⟩ := a'
    have hd' : ds = D := hd
    rw [hd']
    exact AnyX.sound fuel _ _ _ _ H') (H.2 i hm)⟩
/-- An operation that yields v, whatever is held beside hc. -/
def YX (P : Program) (w0 : World) (ops : Array Oper) (hc : List Bx) (o : Oper) (v : Value) (a : Act) : Prop :=
  (Region.wanted o (yielded ops a.tmps) = false ∧ v = undef) ∨ (Region.wanted o (yielded ops a.tmps) = true ∧ ∀ h W, hc.Sublist h → Inv w0 h W → (execOp a.eval o).run P W = .ok (.value v) W)
theorem YX.wpOp {i : Nat} {o : Oper} {v : Value} {tm : Array Value} {h : List Bx} {W : World} (hi : ops[i]? = some o) (H : YX P w0 ops hc o v ⟨tm, D⟩) (hh : hc.Sublist h) (hw : Inv w0 h W) {K : Act → World → Prop}
    (hK : K ((⟨tm, D⟩ : Act).put o.dst v) W) {Q : Exit → Act → World → Prop} : Go.wpOp P ops Q i K ⟨tm, D⟩ W := by
  unfold Go.wpOp
  rw [hi]
  rcases H with ⟨h1, rfl⟩ | ⟨h1, h2⟩
  · simp only [h1, Bool.false_eq_true, if_false]; exact hK
  · simp only [h1, if_true]
    left
    unfold Oper.wp
    rw [h2 h W hh hw]; exact hK
theorem AnyX.take {i : Nat} {oi : Oper} {v : Value} (hi : ops[i]? = some oi) (hsel : ∀ (j : Nat) (o : Oper) cs b, ops[j]? = some o → o.op ≠ .select cs b) (hQ : Calmly Q) :
    ∀ (fuel : Nat) (listed : Array Bool) (tm : Array Value) (h : List Bx) (W : World), (∀ j oj, ops[j]? = some oj → j ≠ i → listed.getD j true = false → (∀ e ∈ oj.after, Region.binds .any e = true → e.on ≠ i) → oi.apart ops oj = true) →
      i ∈ Region.ready .any ops listed → YX P w0 ops hc oi v ⟨tm, D⟩ → hc.Sublist h → Inv w0 h W → tm.size = n →
      AnyX P w0 n D ops Q hc fuel (listed.setIfInBounds i true) (aPut tm oi.dst v) h W → AnyX P w0 n D ops Q hc (fuel + 1) listed tm h W := by
  have hQ' : ∀ c (a : Act) w, a.tmps.size = n → post w0 n D Q (.panic c) (a.put oi.dst v) w → post w0 n D Q (.panic c) a w := fun c a w hs ⟨s, h, hk, hinv, hd, hq⟩ =>
    ⟨[], h, ⟨hs, fun _ _ e => by cases e⟩, hinv, by revert hd; cases oi.dst <;> exact id, hQ c s [] h hq⟩
  intro fuel
  induction fuel with
  | zero =>
    intro listed tm h W _ hr hy hh hW hn H
    refine ⟨fun e => (by rw [e] at hr; cases hr), fun j hj => ?_⟩
    by_cases hji : j = i
    · subst hji; exact hy.wpOp hi hh hW (by rw [put_eq]; exact ⟨rfl, h, hW, hh, H⟩)
    · have := ready_mono hj hji
      rw [H.1] at this
      cases this
  | succ fuel ih =>
    intro listed tm h W hfree hr hy hh hW hn H
    refine ⟨fun e => (by rw [e] at hr; cases hr), fun j hj => ?_⟩
    by_cases hji : j = i
    · subst hji; exact hy.wpOp hi hh hW (by rw [put_eq]; exact ⟨rfl, h, hW, hh, H⟩)
    · have h1 := H.2 j (ready_mono hj hji)
      obtain ⟨hjun, oj, hoj, hall⟩ := mem_ready.1 hj
      have hnot : ∀ e ∈ oj.after, Region.binds .any e = true → e.on ≠ i := fun e he hb heq => by
        have h1 := hall e he hb
        have h0 := (mem_ready.1 hr).1
        rw [heq] at h1
        rcases Nat.lt_or_ge i listed.size with h' | h'
        · simp [h'] at h0 h1; rw [h0] at h1; cases h1
        · simp [Array.getElem?_eq_none h'] at h1
      have hap := hfree j oj hoj hji hjun hnot
      obtain ⟨-, -, h3⟩ := Oper.apart_spec hap
      have h2 := wpOp_before (a := ⟨tm, D⟩) (C := fun a => YX P w0 ops hc oi v a ∧ a.tmps.size = n) hoj hap (fun cs b => hsel j oj cs b hoj) (fun c w => hQ' c _ w hn)
        (fun a u ⟨hc1, hc2⟩ => ⟨by unfold YX at hc1 ⊢; rw [wanted_put oi a oj.dst u h3, execOp_put oi (fun cs b => hsel i oi cs b hi) a oj.dst u h3]; exact hc1, by cases oj.dst <;> simp [Act.put, hc2]⟩)
        (fun a d hc1 => hc1) ⟨hy, hn⟩ (by rw [put_eq]; exact h1)
      have hfree' : ∀ k ok, ops[k]? = some ok → k ≠ i → (listed.setIfInBounds j true).getD k true = false →
          (∀ e ∈ ok.after, Region.binds .any e = true → e.on ≠ i) → oi.apart ops ok = true := fun k ok hk hki hun hno => by
        refine hfree k ok hk hki ?_ hno
        by_cases hjk : j = k
        · subst hjk; exact hjun
        · rw [getD_set_ne true hjk] at hun; exact hun
      refine wpOp_mono (fun a' w' h4 => ?_) h2
      obtain ⟨⟨hy', hn'⟩, hd, h', hi', hh', H'⟩ := h4
      obtain ⟨tm', ds⟩ := a'
      have hd' : ds = D := by revert hd; cases oi.dst <;> exact id
      subst hd'
      rw [put_eq] at H'
      refine ⟨rfl, h', hi', hh', ih (listed.setIfInBounds j true) tm' h' w' hfree' (ready_mono hr (Ne.symm hji)) hy' hh' hi' hn' ?_⟩
      rw [Array.setIfInBounds_comm _ _ hji]
      exact H'
theorem wpOp_conv {Q1 Q2 : Exit → Act → World → Prop} {K1 K2 : Act → World → Prop} {j : Nat} {a : Act} {W : World} (hQ : ∀ e a w, Q1 e a w → Q2 e a w) (hK : ∀ a w, K1 a w → K2 a w) (H : wpOp P ops Q1 j K1 a W) : wpOp P ops Q2 j K2 a W := by
  have H := wpOp_mono hK H
  unfold wpOp at H ⊢
  split at H
  · exact H
  · rename_i o ho
    split at H
    · rename_i hw
      rw [if_pos hw]
      rcases H with H | ⟨h1, h2⟩
      · exact .inl (wp_exits (fun c a w => hQ _ _ _) (fun ⟨a, w, h⟩ => ⟨a, w, hQ _ _ _ h⟩) H)
      · obtain ⟨a, w, h⟩ := h2
        exact .inr ⟨h1, a, w, hQ _ _ _ h⟩
    · rename_i hw
      rw [if_neg hw]; exact H
/-- From here on the world stays: told of it as the base. -/
theorem AnyX.rebase {W1 : World} {h : List Bx} (hi : Inv w0 h W1) (hh : hc.Sublist h) : ∀ (fuel : Nat) (listed : Array Bool) (tm : Array Value) (h1 : List Bx) (W : World), AnyI P W1 n D ops (fun e s _ => Q e s h) [] fuel listed tm h1 → Inv W1 h1 W →
    AnyX P w0 n D ops Q hc fuel listed tm h W
  | 0, listed, tm, h1, W, ⟨e, s, h2, hk, hc2, hq⟩, hW => ⟨e, s, h, hk, hi.step hW.below, hq⟩
  | fuel + 1, listed, tm, h1, W, H, hW => ⟨fun e => by obtain ⟨s, h2, hk, hc2, hq⟩ := H.1 e; exact ⟨s, h, hk, hi.step hW.below, hq⟩, fun j hj =>
      wpOp_conv (fun e a w ⟨s, h2, hk, hw, hd, hq⟩ => ⟨s, h, hk, hi.step hw.below, hd, hq⟩) (fun a' W' ⟨hd, h2, hw, _, H'⟩ => ⟨hd, h, hi.step hw.below, hh, AnyX.rebase hi hh fuel _ _ h2 W' H' hw⟩) (H.2 j hj W hW)⟩
def XD (P : Program) (w0 : World) (n : Nat) (ops : Array Oper) (Q : AQ) (hc : List Bx) (fuel : Nat) (listed : Array Bool) (s : Sl) (h : List Bx) : Prop := ∀ D tm W, Knows n s tm → Inv w0 h W → AnyX P w0 n D ops Q hc fuel listed tm h W
theorem aw_drawX {id m : Nat} {s : Sl} {h : List Bx} (hm : P.follows .mixedOrders = true) (hl : ops.size = m) (H : XD P w0 n ops Q hc m (Array.replicate m false) s h) : AW P w0 n (.region id ops true) Q s h := fun D tm W hk hi =>
  wp_region_any hm (by rw [hl]; exact AnyX.sound _ _ _ _ _ (H D tm _ hk hi.drew))
theorem aw_drawH {id m : Nat} {s : Sl} {h : List Bx} (hm : P.follows .mixedOrders = true) (hl : ops.size = m) (H : XD P w0 n ops Q h m (Array.replicate m false) s h) : AW P w0 n (.region id ops true) Q s h := aw_drawX hm hl H
theorem calmly_at {h0 : List Bx} (H : Calmly Q) : Calmly (fun e s (_ : List Bx) => Q e s h0) := fun c s s' _ hq => H c s s' h0 hq
theorem xd_take {i fuel : Nat} {listed : Array Bool} {s : Sl} {h : List Bx} {d : Nat} {op : Op} {ty : TypeId} {g : Option (Option Tmp × Bool)} {o : Oper} {v : Value} (hi : ops[i]? = some o) (ht : told ops o = ⟨some d, op, ty, g⟩) (hy : Y P w0 n s hc ⟨some d, op, ty, g⟩ v)
    (hne : ∀ ρ : Operand → Value, ∃ m : Sem Value, execOp ρ (CO.oper ⟨some d, op, ty, g⟩) = (do pure (Next.value (← m)))) (hd : Nat.blt d n = true)
    (hs : (Region.noSelect ops && Region.free .any ops listed i && (Region.ready .any ops listed).contains i) = true) (hQ : Calmly Q) (hh : hc.Sublist h)
    (H : XD P w0 n ops Q hc fuel (listed.setIfInBounds i true) ((d, v) :: s) h) : XD P w0 n ops Q hc (fuel + 1) listed s h := fun D tm W hk hW => by
  simp only [Bool.and_eq_true] at hs
  have hdst : o.dst = some d := congrArg CO.dst ht
  refine AnyX.take hi (Region.noSelect_spec hs.1.1) hQ fuel listed tm h W (Region.free_spec hi hs.1.2) (by simpa using hs.2) ?_ hh hW hk.1 (by rw [hdst]; exact H D _ W (hk.put hd) hW)
  unfold YX
  rw [wanted_told, ht, ← execOp_told ops, ht]
  rcases hy with ⟨h1, h2⟩ | ⟨h1, h2⟩
  · exact .inl ⟨h1 n tm hk, h2⟩
  · refine .inr ⟨h1 n tm hk, fun h' W' hs' hi' => ?_⟩
    rw [ev_defers tm D]
    rcases h2 tm hk h' hs' W' hi' with e | ⟨f, args, e, _⟩
    · exact e
    · obtain ⟨m, hm⟩ := hne (Act.eval ⟨tm, []⟩)
      rw [hm, Sem.run_bind] at e
      cases hr : m.run P W' with
      | ok u w => rw [hr] at e; cases e
      | halt x w => rw [hr] at e; cases e
/-- A call that comes alone: what it has made is told of the world behind it. -/
theorem xd_call {j fuel : Nat} {listed : Array Bool} {s : Sl} {h : List Bx} {d : Nat} {x : Operand} {os : Array Operand} {tys : Array TypeId} {ty : TypeId} {o : Oper} {f : FuncId} {first cap : Array Value} {vs av : List Value} {F : Value → World → Prop}
    (hr : Region.ready .any ops listed = [j]) (hi : ops[j]? = some o) (ht : told ops o = ⟨some d, .call ⟨.value x, os, tys⟩, ty, none⟩) (hx : ev s x = some (.func (.func f) first cap)) (ha : evs s os.toList = some vs) (has : first.toList ++ vs ++ cap.toList = av) (hd : Nat.blt d n = true)
    (hcall : ∀ W, (callFunc f av.toArray).run P W = .ok (.enter f av.toArray) W) (hc0 : ∀ W, Calls P f av.toArray W (fun e W' => ∃ v, e = .returned v ∧ Below W.heap.size W W' ∧ F v W')) (hh : hc.Sublist h)
    (H : ∀ v W1, F v W1 → ∀ D tm, Knows n ((d, v) :: s) tm → AnyI P W1 n D ops (fun e s _ => Q e s h) [] fuel (listed.setIfInBounds j true) tm []) : XD P w0 n ops Q hc (fuel + 1) listed s h := fun D tm W hk hW => by
  refine ⟨fun e => (by rw [hr] at e; cases e), fun i hm => ?_⟩
  rw [hr] at hm
  have : i = j := by simpa using hm
  subst this
  unfold wpOp
  rw [hi]
  simp only [wanted_told]
  have hw : wants (told ops o).g tm = true := by rw [ht]; rfl
  rw [hw]
  simp only [if_true]
  left
  have hdst : o.dst = some d := congrArg CO.dst ht
  have he : (execOp (Act.eval ⟨tm, D⟩) o).run P W = .ok (.enter f av.toArray) W := by
    rw [ev_defers tm D, ← execOp_told ops, ht]
    have hct : Ct P f av.toArray W [] (fun _ _ => True) := ⟨hcall, fun W2 hi2 => (hc0 W2).mono (by rintro e W' ⟨v, rfl, hb, _⟩; exact ⟨v, [], rfl, hi2.step hb, trivial⟩)⟩
    exact run_call hk hx ha has hct
  unfold Oper.wp
  rw [he]
  refine (hc0 W).mono ?_
  rintro e W' ⟨v, rfl, hb, hF⟩
  show Act.defers (Act.put _ _ _) = D ∧ _
  rw [hdst, put_eq]
  exact ⟨rfl, h, hW.step hb, hh, AnyX.rebase (hW.step hb) hh fuel _ _ [] W' (H v W' hF D _ (hk.put hd)) (Inv.start W')⟩
end
end Go.Proofs.YtpmjbobgglgnaaaGreatDoor
