/- Regions that draw their order: what yields the same whatever has come before is taken first; the others in every order. -/
import Derived.Test.YtpmjbobgglgnaaaGreatDoorV2
namespace Go.Proofs.YtpmjbobgglgnaaaGreatDoor
open Go.RowKit
set_option linter.unusedSimpArgs false
set_option linter.unusedVariables false
/-- What a panic hands on hangs on no slot. -/
def Calmly (Q : AQ) : Prop := ∀ c s s' h, Q (.panic c) s h → Q (.panic c) s' h
theorem calmly_ends {P : Program} {w0 : World} {n : Nat} {fn : Func} {Φ : Value → List Bx → Prop} : Calmly (Ends P w0 n fn Φ) := fun c s s' h hq => by
  rcases hq.1 with e | e <;> cases e
theorem calmly_then {K : Sl → List Bx → Prop} {Q : AQ} (H : Calmly Q) : Calmly (aThen K Q) := H
theorem calmly_block {id : Nat} {Q : AQ} (H : Calmly Q) : Calmly (aBlock id Q) := H
section
variable {P : Program} {w0 : World} {n : Nat} {D : List Deferred} {ops : Array Oper} {Q : AQ} {hc : List Bx}

/-- An operation that is apart from another may be carried out ahead of it; C: what the other one leaves alone. -/
theorem wpOp_before {Q : Exit → Act → World → Prop} {j : Nat} {oi oj : Oper} {v : Value} (hj : ops[j]? = some oj) (hap : oi.apart ops oj = true) (hsj : ∀ cs b, oj.op ≠ .select cs b)
    {a : Act} (hQ : ∀ c w, Q (.panic c) (a.put oi.dst v) w → Q (.panic c) a w) {K : Act → World → Prop} {C : Act → Prop} (hC : ∀ a u, C a → C (a.put oj.dst u)) (hD : ∀ (a : Act) d, C a → C { a with defers := d :: a.defers })
    {w : World} (ha : C a) (H : wpOp P ops Q j K (a.put oi.dst v) w) : wpOp P ops Q j (fun a' w' => C a' ∧ K (a'.put oi.dst v) w') a w := by
  obtain ⟨h1, h2, -⟩ := Oper.apart_spec hap
  have comm : ∀ u, (a.put oi.dst v).put oj.dst u = (a.put oj.dst u).put oi.dst v := fun u => Act.put_comm a v u h2
  have he := execOp_put oj hsj a oi.dst v h1
  unfold wpOp at H ⊢
  rw [hj] at H ⊢
  simp only [wanted_put oj a oi.dst v h1] at H ⊢
  by_cases hw : Region.wanted oj (yielded ops a.tmps) = true
  · rw [if_pos hw] at H ⊢
    rcases H with H | ⟨hk, hl⟩
    · left
      unfold Oper.wp at H ⊢
      rw [he] at H
      revert H
      cases (execOp a.eval oj).run P w with
      | halt x w' =>
        cases x with
        | panic u => exact hQ _ _
        | _ => exact id
      | ok m w' =>
        cases m with
        | value u => exact fun H => ⟨hC _ _ ha, by rw [← comm]; exact H⟩
        | skip => exact fun H => ⟨hC _ _ ha, by rw [← comm]; exact H⟩
        | defer d =>
          refine fun H => ⟨hC _ _ (hD _ _ ha), ?_⟩
          have e2 := Act.put_comm ({ a with defers := d :: a.defers } : Act) v undef h2
          have e3 := Act.put_defers a oi.dst v d
          rw [← e2, ← e3]
          exact H
        | enter f args =>
          refine fun H => Calls.mono H fun e w'' he => ?_
          cases e with
          | returned u => exact ⟨hC _ _ ha, by rw [← comm]; exact he⟩
          | panicked c => exact hQ _ _ he
          | outgrown => exact he
        | row r args => exact fun H => Rows.mono H fun u w'' he => ⟨hC _ _ ha, by rw [← comm]; exact he⟩
        | _ => exact id
    · exact .inr ⟨by unfold Oper.asks at hk ⊢; rwa [he] at hk, hl⟩
  · rw [if_neg hw] at H ⊢
    exact ⟨hC _ _ ha, by rw [← comm]; exact H⟩

theorem wp_exits {o : Oper} {a : Act} {w : World} {K : Act → World → Prop} {Q Q2 : Exit → Act → World → Prop} (h1 : ∀ c a w, Q (.panic c) a w → Q2 (.panic c) a w) (h2 : LetsOut Q → LetsOut Q2) (H : o.wp P a w K Q) : o.wp P a w K Q2 := by
  unfold Oper.wp at H ⊢
  revert H
  cases (execOp a.eval o).run P w with
  | halt x w' =>
    cases x with
    | panic u => exact h1 _ _ _
    | _ => exact id
  | ok m w' =>
    cases m with
    | enter f args =>
      refine fun H => Calls.mono H fun e w'' he => ?_
      cases e with
      | returned u => exact he
      | panicked c => exact h1 _ _ _ he
      | outgrown => exact h2 he
    | _ => exact id
/-- Whatever order is drawn from here on; told by the slots and the blocks held. -/
def AnyI (P : Program) (w0 : World) (n : Nat) (D : List Deferred) (ops : Array Oper) (Q : AQ) (hc : List Bx) : Nat → Array Bool → Array Value → List Bx → Prop
  | 0, listed, tm, h => Region.ready .any ops listed = [] ∧ ∃ s h', Knows n s tm ∧ (∀ W, Inv w0 h W → Inv w0 h' W) ∧ Q .normal s h'
  | fuel + 1, listed, tm, h => (Region.ready .any ops listed = [] → ∃ s h', Knows n s tm ∧ (∀ W, Inv w0 h W → Inv w0 h' W) ∧ Q .normal s h') ∧
    ∀ j ∈ Region.ready .any ops listed, ∀ W, Inv w0 h W → wpOp P ops (post w0 n D Q) j (fun a' W' => a'.defers = D ∧ ∃ h', Inv w0 h' W' ∧ hc.Sublist h' ∧ AnyI P w0 n D ops Q hc fuel (listed.setIfInBounds j true) a'.tmps h') ⟨tm, D⟩ W
theorem AnyI.sound : ∀ (fuel : Nat) (listed : Array Bool) (tm : Array Value) (h : List Bx) (W : World), AnyI P w0 n D ops Q hc fuel listed tm h → Inv w0 h W → wpAny P .any ops (post w0 n D Q) fuel listed ⟨tm, D⟩ W
  | 0, _, _, h, _, ⟨h1, s, h', hk, hc, hq⟩, hi => ⟨h1, s, h', hk, hc _ hi, rfl, hq⟩
  | fuel + 1, _, _, h, W, H, hi => ⟨fun e => by obtain ⟨s, h', hk, hc, hq⟩ := H.1 e; exact ⟨s, h', hk, hc _ hi, rfl, hq⟩, fun i hm => wpOp_mono (fun a' W' ⟨hd, h', hi', _, H'⟩ => by
    obtain ⟨tm', ds⟩ := a'
    have hd' : ds = D := hd
    rw [hd']
    exact AnyI.sound fuel _ _ _ _ H' hi') (H.2 i hm W hi)⟩
def YC (P : Program) (w0 : World) (ops : Array Oper) (hc : List Bx) (o : Oper) (v : Value) (a : Act) : Prop :=
  (Region.wanted o (yielded ops a.tmps) = false ∧ v = undef) ∨ (Region.wanted o (yielded ops a.tmps) = true ∧ Cz P w0 hc (execOp a.eval o) v)
theorem YC.wpOp {i : Nat} {o : Oper} {v : Value} {tm : Array Value} {h : List Bx} {W : World} (hi : ops[i]? = some o) (H : YC P w0 ops hc o v ⟨tm, D⟩) (hh : hc.Sublist h) (hw : Inv w0 h W) {K : Act → World → Prop} {Q : Exit → Act → World → Prop}
    (hK : ∀ W', Inv w0 h W' → K ((⟨tm, D⟩ : Act).put o.dst v) W') : Go.wpOp P ops Q i K ⟨tm, D⟩ W := by
  unfold Go.wpOp
  rw [hi]
  rcases H with ⟨h1, rfl⟩ | ⟨h1, h2⟩
  · simp only [h1, Bool.false_eq_true, if_false]; exact hK W hw
  · simp only [h1, if_true]
    left
    unfold Oper.wp
    rcases h2 h hh W hw with e | ⟨f, args, e, hct⟩
    · rw [e]; exact hK W hw
    · rw [e]
      refine (hct.2 W hw).mono ?_
      rintro e W' ⟨u, h', rfl, hi', rfl, rfl⟩
      exact hK W' hi'
theorem AnyI.take {i : Nat} {oi : Oper} {v : Value} (hi : ops[i]? = some oi) (hsel : ∀ (j : Nat) (o : Oper) cs b, ops[j]? = some o → o.op ≠ .select cs b) (hQ : Calmly Q) :
    ∀ (fuel : Nat) (listed : Array Bool) (tm : Array Value) (h : List Bx), (∀ j oj, ops[j]? = some oj → j ≠ i → listed.getD j true = false → (∀ e ∈ oj.after, Region.binds .any e = true → e.on ≠ i) → oi.apart ops oj = true) →
      i ∈ Region.ready .any ops listed → YC P w0 ops hc oi v ⟨tm, D⟩ → hc.Sublist h → tm.size = n →
      AnyI P w0 n D ops Q hc fuel (listed.setIfInBounds i true) (aPut tm oi.dst v) h → AnyI P w0 n D ops Q hc (fuel + 1) listed tm h := by
  have hQ' : ∀ c (a : Act) w, a.tmps.size = n → post w0 n D Q (.panic c) (a.put oi.dst v) w → post w0 n D Q (.panic c) a w := fun c a w hs ⟨s, h, hk, hinv, hd, hq⟩ =>
    ⟨[], h, ⟨hs, fun _ _ e => by cases e⟩, hinv, by revert hd; cases oi.dst <;> exact id, hQ c s [] h hq⟩
  intro fuel
  induction fuel with
  | zero =>
    intro listed tm h _ hr hy hh hn H
    refine ⟨fun e => (by rw [e] at hr; cases hr), fun j hj W hW => ?_⟩
    by_cases hji : j = i
    · subst hji; exact hy.wpOp hi hh hW fun W' hW' => by rw [put_eq]; exact ⟨rfl, h, hW', hh, H⟩
    · have := ready_mono hj hji
      rw [H.1] at this
      cases this
  | succ fuel ih =>
    intro listed tm h hfree hr hy hh hn H
    refine ⟨fun e => (by rw [e] at hr; cases hr), fun j hj W hW => ?_⟩
    by_cases hji : j = i
    · subst hji; exact hy.wpOp hi hh hW fun W' hW' => by rw [put_eq]; exact ⟨rfl, h, hW', hh, H⟩
    · have h1 := H.2 j (ready_mono hj hji) W hW
      obtain ⟨hjun, oj, hoj, hall⟩ := mem_ready.1 hj
      have hnot : ∀ e ∈ oj.after, Region.binds .any e = true → e.on ≠ i := fun e he hb heq => by
        have h1 := hall e he hb
        have h0 := (mem_ready.1 hr).1
        rw [heq] at h1
        rcases Nat.lt_or_ge i listed.size with h' | h'
        · simp [h'] at h0 h1; rw [h0] at h1; cases h1
        · simp [Array.getElem?_eq_none h'] at h1
      have hap := hfree j oj hoj hji hjun hnot
      obtain ⟨-, -, h3⟩ := Oper.apart_spec hap
      have h2 := wpOp_before (a := ⟨tm, D⟩) (C := fun a => YC P w0 ops hc oi v a ∧ a.tmps.size = n) hoj hap (fun cs b => hsel j oj cs b hoj) (fun c w => hQ' c _ w hn)
        (fun a u ⟨hc1, hc2⟩ => ⟨by unfold YC at hc1 ⊢; rw [wanted_put oi a oj.dst u h3, execOp_put oi (fun cs b => hsel i oi cs b hi) a oj.dst u h3]; exact hc1, by cases oj.dst <;> simp [Act.put, hc2]⟩)
        (fun a d hc1 => hc1) ⟨hy, hn⟩ (by rw [put_eq]; exact h1)
      have hfree' : ∀ k ok, ops[k]? = some ok → k ≠ i → (listed.setIfInBounds j true).getD k true = false →
          (∀ e ∈ ok.after, Region.binds .any e = true → e.on ≠ i) → oi.apart ops ok = true := fun k ok hk hki hun hno => by
        refine hfree k ok hk hki ?_ hno
        by_cases hjk : j = k
        · subst hjk; exact hjun
        · rw [getD_set_ne true hjk] at hun; exact hun
      refine wpOp_mono (fun a' w' h4 => ?_) h2
      obtain ⟨⟨hy', hn'⟩, hd, h', hi', hh', H'⟩ := h4
      obtain ⟨tm', ds⟩ := a'
      have hd' : ds = D := by revert hd; cases oi.dst <;> exact id
      subst hd'
      rw [put_eq] at H'
      refine ⟨rfl, h', hi', hh', ih (listed.setIfInBounds j true) tm' h' hfree' (ready_mono hr (Ne.symm hji)) hy' hh' hn' ?_⟩
      rw [Array.setIfInBounds_comm _ _ hji]
      exact H'

/-! ### The moves -/
/-- Drawn from here on, told by what is known of the slots; i: the next to be looked at; pd: those that were passed over. -/
def AD (P : Program) (w0 : World) (n : Nat) (ops : Array Oper) (Q : AQ) (hc : List Bx) (i : Nat) (pd : List Nat) (fuel : Nat) (listed : Array Bool) (s : Sl) (h : List Bx) : Prop := ∀ D tm, Knows n s tm → AnyI P w0 n D ops Q hc fuel listed tm h
/-- A block is left out. -/
inductive Rem (g : Nat) : List Bx → List Bx → Prop
  | head (cs : Array Value) (t : TypeId) (h : List Bx) : Rem g (⟨g, cs, t⟩ :: h) h
  | tail (b : Bx) {h h' : List Bx} (H : Rem g h h') : Rem g (b :: h) (b :: h')
theorem Rem.sub {g : Nat} {h h' : List Bx} (H : Rem g h h') : h'.Sublist h := by
  induction H with
  | head => exact List.sublist_cons_self _ _
  | tail b _ ih => exact ih.cons_cons b
/-- The blocks that the slots ks point to are left out. -/
inductive Rems (s : Sl) : List Nat → List Bx → List Bx → Prop
  | nil (h : List Bx) : Rems s [] h h
  | again {k : Nat} {ks : List Nat} {h h' : List Bx} (H : Rems s ks h h') : Rems s (k :: ks) h h'
  | ptr {k g o : Nat} {ks : List Nat} {h h1 h' : List Bx} (hx : lk s k = some (.pointer (some ⟨g, o, none⟩))) (hr : Rem g h h1) (H : Rems s ks h1 h') : Rems s (k :: ks) h h'
  | sl {k g o a b : Nat} {ks : List Nat} {h h1 h' : List Bx} (hx : lk s k = some (.slice (some ⟨g, o, none⟩) a b)) (hr : Rem g h h1) (H : Rems s ks h1 h') : Rems s (k :: ks) h h'
theorem Rems.sub {s : Sl} {ks : List Nat} {h h' : List Bx} (H : Rems s ks h h') : h'.Sublist h := by
  induction H with
  | nil => exact List.Sublist.refl _
  | again _ ih => exact ih
  | ptr _ h1 _ ih => exact ih.trans h1.sub
  | sl _ h1 _ ih => exact ih.trans h1.sub
/-- Where the stores of a region go: the slots that their addresses come from. -/
def rootOf (ops : List Oper) : Nat → Nat → Nat
  | 0, a => a
  | f + 1, a => match ops.find? (fun o => o.dst == some a) with
    | some o => (match o.op with | .fieldAddr _ (.tmp b) _ | .indexAddr _ (.tmp b) _ | .move (.tmp b) | .nilCheck (.tmp b) => rootOf ops f b | _ => a)
    | none => a
def rootsOf (ops : List Oper) : List Nat := ops.filterMap fun o => match o.op with | .store _ (.tmp a) _ => some (rootOf ops 20 a) | _ => none
theorem aw_draw {id m : Nat} {s : Sl} {h : List Bx} (hm : P.follows .mixedOrders = true) (hl : ops.size = m) (_hr : Rems s (rootsOf ops.toList) h hc)
    (H : AD P w0 n ops Q hc 0 [] m (Array.replicate m false) s h) : AW P w0 n (.region id ops true) Q s h := fun D tm W hk hi =>
  wp_region_any hm (by rw [hl]; exact AnyI.sound _ _ _ _ _ (H D tm hk) hi.drew)
section
variable {i fuel : Nat} {pd : List Nat} {listed : Array Bool} {s : Sl} {h : List Bx}
/-- Number i is taken first. -/
theorem ad_take {d : Nat} {op : Op} {ty : TypeId} {g : Option (Option Tmp × Bool)} {o : Oper} {v : Value} (hi : ops[i]? = some o) (ht : told ops o = ⟨some d, op, ty, g⟩) (hy : Y P w0 n s hc ⟨some d, op, ty, g⟩ v) (hd : Nat.blt d n = true)
    (hs : (Region.noSelect ops && Region.free .any ops listed i && (Region.ready .any ops listed).contains i) = true) (hQ : Calmly Q) (hh : hc.Sublist h)
    (H : AD P w0 n ops Q hc (i + 1) pd fuel (listed.setIfInBounds i true) ((d, v) :: s) h) : AD P w0 n ops Q hc i pd (fuel + 1) listed s h := fun D tm hk => by
  simp only [Bool.and_eq_true] at hs
  have hdst : o.dst = some d := congrArg CO.dst ht
  refine AnyI.take hi (Region.noSelect_spec hs.1.1) hQ fuel listed tm h (Region.free_spec hi hs.1.2) (by simpa using hs.2) ?_ hh hk.1 (by rw [hdst]; exact H D _ (hk.put hd))
  unfold YC
  rw [wanted_told, ht, ← execOp_told ops, ht]
  rcases hy with ⟨h1, h2⟩ | ⟨h1, h2⟩
  · exact .inl ⟨h1 n tm hk, h2⟩
  · exact .inr ⟨h1 n tm hk, by rw [ev_defers tm D]; exact h2 tm hk⟩
/-- Number i is passed over. -/
theorem ad_pass (_hi : Nat.blt i ops.size = true) (H : AD P w0 n ops Q hc (i + 1) (i :: pd) fuel listed s h) : AD P w0 n ops Q hc i pd fuel listed s h := H
theorem ad_guard {k : Nat} {b x : Bool} {o : Oper} (_hi : ops[i]? = some o) (_ht : (told ops o).g = some (some k, b)) (_hs : lk s k = some (.bool x))
    (H1 : x = true → AD P w0 n ops Q hc i pd fuel listed s h) (H2 : x = false → AD P w0 n ops Q hc i pd fuel listed s h) : AD P w0 n ops Q hc i pd fuel listed s h := by
  cases x
  · exact H2 rfl
  · exact H1 rfl
theorem ad_known {k : Nat} {b x y : Bool} {o : Oper} (_hi : ops[i]? = some o) (_ht : (told ops o).g = some (some k, b)) (_hs : lk s k = some (.bool x)) (_hx : x = y) (H : AD P w0 n ops Q hc i pd fuel listed s h) : AD P w0 n ops Q hc i pd fuel listed s h := H
theorem aj {j : Nat} {o : Oper} {dd : Option Tmp} {op : Op} {ty : TypeId} {g : Option (Option Tmp × Bool)} (ho : ops[j]? = some o) (h1 : o.dst = dd) (h2 : o.op = op) (h3 : o.type = ty) (h4 : (told ops o).g = g) (H : AC P w0 n Q [⟨dd, op, ty, g⟩] s h) : ∀ o', ops[j]? = some o' → AC P w0 n Q [told ops o'] s h := fun o' h' => by
  rw [ho] at h'; cases h'; subst h1 h2 h3 h4; exact H
theorem sub_and {a b : List Bx} {p : Prop} (h1 : a.Sublist b) (h2 : p) : a.Sublist b ∧ p := ⟨h1, h2⟩
theorem ad_doneC {h' : List Bx} (hr : (Region.ready .any ops listed).isEmpty = true) (hc' : ∀ W, Inv w0 h W → Inv w0 h' W) (H : Q .normal s h') : AD P w0 n ops Q hc i pd fuel listed s h := fun D tm hk => by
  have e : Region.ready .any ops listed = [] := List.isEmpty_iff.1 hr
  cases fuel with
  | zero => exact ⟨e, s, h', hk, hc', H⟩
  | succ f => exact ⟨fun _ => ⟨s, h', hk, hc', H⟩, by rw [e]; simp⟩
theorem ad_done (hr : (Region.ready .any ops listed).isEmpty = true) (H : Q .normal s h) : AD P w0 n ops Q hc i pd fuel listed s h := ad_doneC hr (fun _ h => h) H
/-- Those that were passed over, whichever comes up. -/
theorem ad_any (hr : ((Region.ready .any ops listed).isEmpty || !(Region.ready .any ops listed).all (pd.contains ·)) = false)
    (H : ∀ j ∈ pd, (Region.ready .any ops listed).contains j = true → ∀ o, ops[j]? = some o → AC P w0 n (aThen (fun s' h' => hc.Sublist h' ∧ AD P w0 n ops Q hc i (pd.erase j) fuel (listed.setIfInBounds j true) s' h') Q) [told ops o] s h) :
    AD P w0 n ops Q hc i pd (fuel + 1) listed s h := fun D tm hk => by
  simp only [Bool.or_eq_false_iff, Bool.not_eq_false', List.all_eq_true] at hr
  refine ⟨fun e => (by rw [e] at hr; cases hr.1), fun j hj W hW => ?_⟩
  have hjp : j ∈ pd := by simpa using hr.2 j hj
  obtain ⟨_, o, ho, _⟩ := mem_ready.1 hj
  unfold wpOp
  rw [ho]
  have hA := H j hjp (by simpa using hj) o ho D tm W hk hW
  simp only [wanted_told]
  rcases hA with ⟨h1, s', hk', h2⟩ | ⟨h1, h2⟩
  · rw [h1]
    simp only [Bool.false_eq_true, if_false]
    rw [put_eq]
    obtain ⟨hs, hd⟩ := h2
    exact ⟨rfl, h, hW, hs, hd D _ hk'⟩
  · rw [h1]
    simp only [if_true]
    left
    have h3 : o.wp P ⟨tm, D⟩ W (fun a W' => a.defers = D ∧ ∃ s' h', Knows n s' a.tmps ∧ Inv w0 h' W' ∧ (hc.Sublist h' ∧ AD P w0 n ops Q hc i (pd.erase j) fuel (listed.setIfInBounds j true) s' h')) (post w0 n D (aThen (fun s' h' => hc.Sublist h' ∧ AD P w0 n ops Q hc i (pd.erase j) fuel (listed.setIfInBounds j true) s' h') Q)) := h2
    refine wp_exits (Q := post w0 n D (aThen (fun s' h' => hc.Sublist h' ∧ AD P w0 n ops Q hc i (pd.erase j) fuel (listed.setIfInBounds j true) s' h') Q)) (fun c a w hq => hq) (fun ⟨a, w, hq⟩ => ⟨a, w, hq⟩) (Oper.wp_mono (fun a W' hh => ?_) h3)
    obtain ⟨e1, s', h', e2, e3, e4, e5⟩ := hh
    exact ⟨e1, h', e3, e4, e5 D _ e2⟩
end
end
end Go.Proofs.YtpmjbobgglgnaaaGreatDoor
