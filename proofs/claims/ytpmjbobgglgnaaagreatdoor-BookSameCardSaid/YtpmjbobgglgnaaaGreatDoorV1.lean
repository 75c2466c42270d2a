/- The condition maker's base: what is held of a world is a list of blocks of the call's own; a walk's rules over that list. -/
import Derived.Test.YtpmjbobgglgnaaaGreatDoorB0
import Derived.OrdersHeld
namespace Go.Proofs.YtpmjbobgglgnaaaGreatDoor
open Go.RowKit

/-- A block of the call's own: its number, its cells, its type. -/
structure Bx where
  g : Nat
  cs : Array Value
  t : TypeId

/-- The block g holds the cells cs; none of them is frozen. -/
def Blk (W : World) (g : Nat) (cs : Array Value) (t : TypeId) : Prop := ∃ fr : Nat × Nat, W.heap[g]? = some (.cells cs t fr) ∧ (fr = (0, 0) ∨ cs.size ≤ fr.1)
theorem Blk.cell {W : World} {g : Nat} {cs : Array Value} {t : TypeId} (H : Blk W g cs t) : ∀ o, W.cell? ⟨g, o, none⟩ = cs[o]? := by
  obtain ⟨fr, h, _⟩ := H; exact cell_rule h
theorem Blk.froz {W : World} {g : Nat} {cs : Array Value} {t : TypeId} (H : Blk W g cs t) (o : Nat) (ho : o < cs.size) : W.frozen? ⟨g, o, none⟩ = false := by
  obtain ⟨fr, h, hf⟩ := H
  rcases hf with rfl | hf
  · exact froz_rule h o
  · obtain ⟨lo, hi⟩ := fr
    simp only [World.frozen?, h, Bool.and_eq_false_iff, decide_eq_false_iff_not]
    left; simp only at hf; omega
theorem Blk.lt {W : World} {g : Nat} {cs : Array Value} {t : TypeId} (H : Blk W g cs t) : g < W.heap.size := by
  obtain ⟨fr, h, _⟩ := H; exact blk_lt h
theorem Blk.below {W W1 : World} {g : Nat} {cs : Array Value} {t : TypeId} (H : Blk W g cs t) (hb : Below W.heap.size W W1) : Blk W1 g cs t := by
  obtain ⟨fr, h, hf⟩ := H; exact ⟨fr, blk_below h hb, hf⟩
theorem Blk.far {W : World} {g : Nat} {cs : Array Value} {t : TypeId} {p : Addr} (H : Blk W g cs t) (hne : g ≠ p.block) (v : Value) : Blk (W.setCell p v) g cs t := by
  obtain ⟨fr, h, hf⟩ := H; exact ⟨fr, blk_far h hne v, hf⟩
theorem Blk.set {W : World} {g : Nat} {cs : Array Value} {t : TypeId} (H : Blk W g cs t) (i : Nat) (v : Value) : Blk (W.setCell ⟨g, i, none⟩ v) g (cs.setIfInBounds i v) t := by
  obtain ⟨fr, h, hf⟩ := H; exact ⟨fr, blk_set h i v, by simpa using hf⟩
/-- What is held: nothing that was there has turned; the blocks of one's own, each another. -/
structure Inv (w0 : World) (h : List Bx) (W : World) : Prop where
  below : Below w0.heap.size w0 W
  own : ∀ x ∈ h, Blk W x.g x.cs x.t
  ge : ∀ x ∈ h, w0.heap.size ≤ x.g
  nodup : (h.map (·.g)).Nodup

theorem Inv.start (w0 : World) : Inv w0 [] w0 := ⟨Below.refl _ _, by simp, by simp, by simp⟩
theorem Inv.cell {w0 W : World} {h : List Bx} (H : Inv w0 h W) : ∀ x ∈ h, ∀ o, W.cell? ⟨x.g, o, none⟩ = x.cs[o]? := fun x hx => (H.own x hx).cell
theorem Inv.froz {w0 W : World} {h : List Bx} (H : Inv w0 h W) : ∀ x ∈ h, ∀ o, o < x.cs.size → W.frozen? ⟨x.g, o, none⟩ = false := fun x hx o ho => (H.own x hx).froz o ho
theorem Inv.lt {w0 W : World} {h : List Bx} (H : Inv w0 h W) : ∀ x ∈ h, x.g < W.heap.size := fun x hx => (H.own x hx).lt
theorem Inv.drew {w0 W : World} {h : List Bx} (H : Inv w0 h W) : Inv w0 h W.drew := ⟨H.below.drew, H.own, H.ge, H.nodup⟩
/-- A call has come back: it has made memory and turned none. -/
theorem Inv.step {w0 W W1 : World} {h : List Bx} (H : Inv w0 h W) (hb : Below W.heap.size W W1) : Inv w0 h W1 :=
  ⟨b_step H.below hb, fun x hx => (H.own x hx).below hb, H.ge, H.nodup⟩
/-- A new block. -/
theorem Inv.allocF {w0 W : World} {h : List Bx} (H : Inv w0 h W) (cs : Array Value) (t : TypeId) (fr : Nat × Nat) (hf : fr = (0, 0) ∨ cs.size ≤ fr.1) : Inv w0 (⟨W.heap.size, cs, t⟩ :: h) (W.alloc (.cells cs t fr)) :=
  ⟨b_alloc H.below _, by
    intro x hx
    rcases List.mem_cons.1 hx with rfl | hx
    · exact ⟨fr, heap_alloc_new _ _, hf⟩
    · exact (H.own x hx).below ((Below.refl _ _).alloc (Nat.le_refl _) _),
   by
    intro x hx
    rcases List.mem_cons.1 hx with rfl | hx
    · exact H.below.size
    · exact H.ge x hx,
   by
    simp only [List.map_cons, List.nodup_cons]
    refine ⟨fun hm => ?_, H.nodup⟩
    obtain ⟨x, hx, e⟩ := List.mem_map.1 hm
    have := H.lt x hx
    omega⟩
theorem Inv.alloc {w0 W : World} {h : List Bx} (H : Inv w0 h W) (cs : Array Value) (t : TypeId) : Inv w0 (⟨W.heap.size, cs, t⟩ :: h) (W.alloc (.cells cs t)) := H.allocF cs t (0, 0) (.inl rfl)
/-- A store into a block of one's own. -/
theorem Inv.set {w0 W : World} {p q : List Bx} {g : Nat} {cs : Array Value} {t : TypeId} (H : Inv w0 (p ++ ⟨g, cs, t⟩ :: q) W) (i : Nat) (v : Value) :
    Inv w0 (p ++ ⟨g, cs.setIfInBounds i v, t⟩ :: q) (W.setCell ⟨g, i, none⟩ v) := by
  have hn := H.nodup
  simp only [List.map_append, List.map_cons, List.nodup_append, List.nodup_cons, List.mem_cons, List.mem_map] at hn
  refine ⟨b_set H.below (H.ge ⟨g, cs, t⟩ (by simp)) v, ?_, ?_, ?_⟩
  · intro x hx
    simp only [List.mem_append, List.mem_cons] at hx
    rcases hx with hx | rfl | hx
    · refine (H.own x (by simp [hx])).far (fun e => ?_) v
      exact hn.2.2 x.g ⟨x, hx, rfl⟩ g (.inl rfl) e
    · exact (H.own ⟨g, cs, t⟩ (by simp)).set i v
    · refine (H.own x (by simp [hx])).far (fun e => ?_) v
      exact hn.2.1.1 ⟨x, hx, e⟩
  · intro x hx
    simp only [List.mem_append, List.mem_cons] at hx
    rcases hx with hx | rfl | hx
    · exact H.ge x (by simp [hx])
    · exact H.ge ⟨g, cs, t⟩ (by simp)
    · exact H.ge x (by simp [hx])
  · have := H.nodup
    simpa using this
theorem Inv.sub {w0 W : World} {h h' : List Bx} (H : Inv w0 h W) (hs : h'.Sublist h) : Inv w0 h' W :=
  ⟨H.below, fun x hx => H.own x (hs.subset hx), fun x hx => H.ge x (hs.subset hx), H.nodup.sublist (hs.map _)⟩
theorem Inv.tail {w0 W : World} {b : Bx} {h : List Bx} (H : Inv w0 (b :: h) W) : Inv w0 h W := H.sub (List.sublist_cons_self _ _)
def setMany (W : World) (g : Nat) : Nat → List Value → World
  | _, [] => W
  | i, v :: vs => setMany (W.setCell ⟨g, i, none⟩ v) g (i + 1) vs
def setsA (cs : Array Value) : Nat → List Value → Array Value
  | _, [] => cs
  | i, v :: vs => setsA (cs.setIfInBounds i v) (i + 1) vs
theorem Inv.sets {w0 : World} {p q : List Bx} {g : Nat} {t : TypeId} : ∀ (vs : List Value) {W : World} {cs : Array Value} (i : Nat), Inv w0 (p ++ ⟨g, cs, t⟩ :: q) W →
    Inv w0 (p ++ ⟨g, setsA cs i vs, t⟩ :: q) (setMany W g i vs)
  | [], _, _, _, H => H
  | v :: vs, _, _, i, H => Inv.sets vs (i + 1) (H.set i v)
/-- The block g of h, with other cells. -/
inductive Upd (g : Nat) (t : TypeId) (cs cs' : Array Value) : List Bx → List Bx → Prop
  | head (h : List Bx) : Upd g t cs cs' (⟨g, cs, t⟩ :: h) (⟨g, cs', t⟩ :: h)
  | tail (b : Bx) {h h' : List Bx} (H : Upd g t cs cs' h h') : Upd g t cs cs' (b :: h) (b :: h')
theorem Upd.split {g : Nat} {t : TypeId} {cs cs' : Array Value} {h h' : List Bx} (H : Upd g t cs cs' h h') : ∃ p q, h = p ++ ⟨g, cs, t⟩ :: q ∧ h' = p ++ ⟨g, cs', t⟩ :: q := by
  induction H with
  | head h => exact ⟨[], h, rfl, rfl⟩
  | tail b _ ih => obtain ⟨p, q, rfl, rfl⟩ := ih; exact ⟨b :: p, q, rfl, rfl⟩
theorem Inv.upds {w0 W : World} {h h' : List Bx} {g : Nat} {t : TypeId} {cs : Array Value} {i : Nat} {vs : List Value} (H : Inv w0 h W) (hu : Upd g t cs (setsA cs i vs) h h') : Inv w0 h' (setMany W g i vs) := by
  obtain ⟨p, q, rfl, rfl⟩ := hu.split
  exact H.sets vs i

/-! ### What is known of the slots -/
abbrev Sl := List (Nat × Value)
def lk : Sl → Nat → Option Value
  | [], _ => none
  | (i, v) :: s, j => bif i == j then some v else lk s j
def Knows (n : Nat) (s : Sl) (tm : Array Value) : Prop := tm.size = n ∧ ∀ i v, lk s i = some v → tm[i]? = some v
theorem Knows.put {n : Nat} {s : Sl} {tm : Array Value} {d : Nat} {v : Value} (H : Knows n s tm) (hd : Nat.blt d n = true) : Knows n ((d, v) :: s) (tm.setIfInBounds d v) := by
  refine ⟨by simp [H.1], fun i u hu => ?_⟩
  have hd' : d < tm.size := by rw [H.1]; simpa [Nat.blt_eq] using hd
  simp only [lk] at hu
  cases hb : (d == i) with
  | true =>
    rw [hb] at hu
    have := eq_of_beq hb
    subst this
    simp only [cond_true, Option.some.injEq] at hu
    subst hu
    rw [Array.getElem?_setIfInBounds]; simp [hd']
  | false =>
    rw [hb] at hu
    have hne : d ≠ i := ne_of_beq_false hb
    rw [Array.getElem?_setIfInBounds_ne hne]
    exact H.2 i u hu
def Sub (s s' : Sl) : Prop := ∀ i v, lk s i = some v → lk s' i = some v
theorem Sub.nil {s : Sl} : Sub [] s := fun _ _ h => by cases h
theorem Sub.cons {s s' : Sl} {i : Nat} {v : Value} (h : lk s' i = some v) (H : Sub s s') : Sub ((i, v) :: s) s' := fun j u hu => by
  simp only [lk] at hu
  cases hb : (i == j) with
  | true => rw [hb] at hu; have := eq_of_beq hb; subst this; simp only [cond_true, Option.some.injEq] at hu; exact hu ▸ h
  | false => rw [hb] at hu; exact H j u hu
theorem Knows.sub {n : Nat} {s s' : Sl} {tm : Array Value} (H : Knows n s' tm) (hs : Sub s s') : Knows n s tm := ⟨H.1, fun i v h => H.2 i v (hs i v h)⟩
def ev (s : Sl) : Operand → Option Value
  | .tmp i => lk s i
  | .const v => some v
  | .global g => some (.pointer (some ⟨g, 0, none⟩))
  | .func f => some (.func (.func f) #[] #[])
def rho (s : Sl) (o : Operand) : Value := (ev s o).getD undef
theorem ev_defers (tm : Array Value) (D : List Deferred) : Act.eval ⟨tm, D⟩ = Act.eval ⟨tm, []⟩ := by funext o; cases o <;> rfl
theorem ev_ok {n : Nat} {s : Sl} {tm : Array Value} {ds : List Deferred} (H : Knows n s tm) {o : Operand} {v : Value} (h : ev s o = some v) : Act.eval ⟨tm, ds⟩ o = v := by
  cases o with
  | tmp i => simp only [ev] at h; simp only [Act.eval, Array.getD_eq_getD_getElem?, H.2 i v h, Option.getD_some]
  | const u => simp only [ev, Option.some.injEq] at h; exact h
  | global g => simp only [ev, Option.some.injEq] at h; exact h
  | func f => simp only [ev, Option.some.injEq] at h; exact h
def evs (s : Sl) : List Operand → Option (List Value)
  | [] => some []
  | o :: os => match ev s o, evs s os with
    | some v, some vs => some (v :: vs)
    | _, _ => none
theorem evs_ok {n : Nat} {s : Sl} {tm : Array Value} {ds : List Deferred} (H : Knows n s tm) : ∀ {os : List Operand} {vs : List Value}, evs s os = some vs → os.map (Act.eval ⟨tm, ds⟩) = vs
  | [], _, h => by simp only [evs, Option.some.injEq] at h; exact h
  | o :: os, vs, h => by
    simp only [evs] at h
    split at h
    · rename_i v us h1 h2
      simp only [Option.some.injEq] at h
      subst h
      simp [ev_ok H h1, evs_ok H h2]
    · cases h
/-- All that the operation looks at is known. -/
def oks (s : Sl) (op : Op) : Bool := (match op with | .select _ _ => false | _ => true) && op.operands.toList.all fun o => (ev s o).isSome

/-! ### Operations: a list of them in the text's order, told by what counts alone -/
/-- An operation without its place in the text; g: the slot that guards it, and what it must hold. -/
structure CO where
  dst : Option Tmp
  op : Op
  ty : TypeId
  g : Option (Option Tmp × Bool)
def CO.oper (c : CO) : Oper := { dst := c.dst, op := c.op, type := c.ty, pos := "", after := #[], guard := none }
def told (ops : Array Oper) (o : Oper) : CO := ⟨o.dst, o.op, o.type, match o.guard with | none => none | some (j, b) => some ((ops[j]?).bind (·.dst), b)⟩
def wants (g : Option (Option Tmp × Bool)) (tm : Array Value) : Bool :=
  match g with
  | none => true
  | some (s, b) => (match s.bind (tm[·]?) with | some (.bool x) => some x | _ => none) == some b
theorem execOp_told (ops : Array Oper) (ρ : Operand → Value) (o : Oper) : execOp ρ (told ops o).oper = execOp ρ o := rfl
theorem wanted_told (ops : Array Oper) (tm : Array Value) (o : Oper) : Region.wanted o (yielded ops tm) = wants (told ops o).g tm := by
  unfold Region.wanted wants told yielded
  cases o.guard <;> rfl
def aPut (tm : Array Value) : Option Tmp → Value → Array Value
  | some d, v => tm.setIfInBounds d v
  | none, _ => tm
theorem put_eq (tm : Array Value) (D : List Deferred) (d : Option Tmp) (v : Value) : (⟨tm, D⟩ : Act).put d v = ⟨aPut tm d v, D⟩ := by cases d <;> rfl
abbrev AQ := Exit → Sl → List Bx → Prop
/-- The model's post that a condition over slots and blocks stands for. -/
def post (w0 : World) (n : Nat) (D : List Deferred) (Q : AQ) : Exit → Act → World → Prop := fun e a W => ∃ s h, Knows n s a.tmps ∧ Inv w0 h W ∧ a.defers = D ∧ Q e s h
def AW (P : Program) (w0 : World) (n : Nat) (c : Code) (Q : AQ) (s : Sl) (h : List Bx) : Prop :=
  ∀ D tm W, Knows n s tm → Inv w0 h W → c.wp P (post w0 n D Q) ⟨tm, D⟩ W
def AC (P : Program) (w0 : World) (n : Nat) (Q : AQ) : List CO → Sl → List Bx → Prop
  | [], s, h => Q .normal s h
  | c :: rest, s, h => ∀ D tm W, Knows n s tm → Inv w0 h W →
    (wants c.g tm = false ∧ ∃ s', Knows n s' (aPut tm c.dst undef) ∧ AC P w0 n Q rest s' h) ∨
    (wants c.g tm = true ∧ c.oper.wp P ⟨tm, D⟩ W (fun a W' => a.defers = D ∧ ∃ s' h', Knows n s' a.tmps ∧ Inv w0 h' W' ∧ AC P w0 n Q rest s' h') (post w0 n D Q))
theorem AC.sound {P : Program} {w0 : World} {n : Nat} {Q : AQ} {ops : Array Oper} : ∀ (l : List Oper) (s : Sl) (h : List Bx), AC P w0 n Q (l.map (told ops)) s h →
    ∀ D tm W, Knows n s tm → Inv w0 h W → wpList P ops (post w0 n D Q) l ⟨tm, D⟩ W
  | [], s, h, H, _, _, _, hk, hi => wpList_nil ⟨s, h, hk, hi, rfl, H⟩
  | o :: l, s, h, H, D, tm, W, hk, hi => by
    refine wpList_step fun K hK => ?_
    rw [wanted_told]
    rcases H D tm W hk hi with ⟨hw, s', hk', H⟩ | ⟨hw, H⟩
    · rw [hw]
      simp only [Bool.false_eq_true, if_false]
      rw [put_eq]
      exact hK _ _ (AC.sound l s' h H D _ W hk' hi)
    · rw [hw]
      simp only [if_true]
      have h2 : o.wp P ⟨tm, D⟩ W (fun a W' => a.defers = D ∧ ∃ s' h', Knows n s' a.tmps ∧ Inv w0 h' W' ∧ AC P w0 n Q (l.map (told ops)) s' h') (post w0 n D Q) := H
      refine Oper.wp_mono (fun a W' hh => ?_) h2
      obtain ⟨hd, s', h', hk', hi', H'⟩ := hh
      obtain ⟨tm', ds⟩ := a
      cases hd
      exact hK _ _ (AC.sound l s' h' H' _ tm' W' hk' hi')

/-! ### Codes -/
def aThen (K : Sl → List Bx → Prop) (Q : AQ) : AQ
  | .normal, s, h => K s h
  | e, s, h => Q e s h
def aBlock (id : Nat) (Q : AQ) : AQ
  | .exit id', s, h => if id' = id then Q .normal s h else Q (.exit id') s h
  | e, s, h => Q e s h
section
variable {P : Program} {w0 : World} {n : Nat} {Q : AQ} {s : Sl} {h : List Bx}
theorem aw_skip (H : Q .normal s h) : AW P w0 n .skip Q s h := fun _ _ _ hk hi => wp_skip ⟨s, h, hk, hi, rfl, H⟩
theorem aw_ret (H : Q .ret s h) : AW P w0 n .ret Q s h := fun _ _ _ hk hi => wp_ret ⟨s, h, hk, hi, rfl, H⟩
theorem aw_exit {id : Nat} (H : Q (.exit id) s h) : AW P w0 n (.exit id) Q s h := fun _ _ _ hk hi => wp_exit ⟨s, h, hk, hi, rfl, H⟩
theorem AW.weaken {c : Code} {s' : Sl} {h' : List Bx} (H : AW P w0 n c Q s' h') (hs : Sub s' s) (hh : h'.Sublist h) : AW P w0 n c Q s h := fun D tm W hk hi => H D tm W (hk.sub hs) (hi.sub hh)
theorem aw_seq {x y : Code} (H : AW P w0 n x (aThen (AW P w0 n y Q) Q) s h) : AW P w0 n (.seq x y) Q s h := fun D tm W hk hi =>
  wp_seq (wp_mono (H D tm W hk hi) fun e a W' hp => by
    obtain ⟨s', h', hk', hi', hd, hq⟩ := hp
    obtain ⟨tm', ds⟩ := a
    cases hd
    cases e with
    | normal => exact hq _ tm' W' hk' hi'
    | _ => exact ⟨s', h', hk', hi', rfl, hq⟩)
/-- The code behind is hidden until its turn comes. -/
theorem aw_seq_k {x y : Code} (H : ∀ K : Sl → List Bx → Prop, (∀ s h, AW P w0 n y Q s h → K s h) → AW P w0 n x (aThen K Q) s h) : AW P w0 n (.seq x y) Q s h := aw_seq (H _ fun _ _ h => h)
theorem aw_cond {c : Operand} {x y : Code} {t : Bool} (hc : ev s c = some (.bool t)) (ht : t = true → AW P w0 n x Q s h) (hf : t = false → AW P w0 n y Q s h) : AW P w0 n (.cond c x y) Q s h :=
  fun D tm W hk hi => wp_cond_split (ev_ok hk hc) (fun e => ht e D tm W hk hi) (fun e => hf e D tm W hk hi)
theorem aw_cond_on {c : Operand} {x y : Code} {t : Bool} (hc : ev s c = some (.bool t)) (ht : t = true) (H : AW P w0 n x Q s h) : AW P w0 n (.cond c x y) Q s h := aw_cond hc (fun _ => H) (fun e => by rw [ht] at e; cases e)
theorem aw_cond_off {c : Operand} {x y : Code} {t : Bool} (hc : ev s c = some (.bool t)) (ht : t = false) (H : AW P w0 n y Q s h) : AW P w0 n (.cond c x y) Q s h := aw_cond hc (fun e => by rw [ht] at e; cases e) (fun _ => H)
theorem aw_block {id : Nat} {c : Code} (H : AW P w0 n c (aBlock id Q) s h) : AW P w0 n (.block id c) Q s h := fun D tm W hk hi =>
  wp_block (wp_mono (H D tm W hk hi) fun e a W' hp => by
    obtain ⟨s', h', hk', hi', hd, hq⟩ := hp
    cases e with
    | exit id' =>
      simp only [Exit.inBlock, aBlock] at hq ⊢
      split
      · rename_i e; rw [if_pos e] at hq; exact ⟨s', h', hk', hi', hd, hq⟩
      · rename_i e; rw [if_neg e] at hq; exact ⟨s', h', hk', hi', hd, hq⟩
    | _ => exact ⟨s', h', hk', hi', hd, hq⟩)
theorem aw_region {id : Nat} {ops : Array Oper} {l : List CO} (hl : ops.toList.map (told ops) = l) (H : AC P w0 n Q l s h) : AW P w0 n (.region id ops false) Q s h := fun D tm W hk hi =>
  wp_region_list (AC.sound ops.toList s h (hl ▸ H) D tm W hk hi)
/-- A loop: what is known at every round's head, told by a; m is lowered. -/
theorem aw_loop {c : Code} {α : Type} (S : α → Sl) (B : α → List Bx) (R : α → Prop) (m : α → Nat) (a0 : α) (hr : R a0) (hs : Sub (S a0) s) (hb : (B a0).Sublist h)
    (round : ∀ a, R a → AW P w0 n c (aThen (fun s' h' => ∃ a', R a' ∧ m a' < m a ∧ Sub (S a') s' ∧ (B a').Sublist h') Q) (S a) (B a)) : AW P w0 n (.loop c) Q s h := fun D tm W hk hi => by
  intro b k cs
  have key : ∀ N a tm W, m a ≤ N → R a → Knows n (S a) tm → Inv w0 (B a) W → ∃ e a' w', post w0 n D Q e a' w' ∧ Arrives P (lone (b.at ⟨tm, D⟩ (.code c :: .inLoop c :: k)) cs W) b k cs e a' w' := by
    intro N
    induction N using Nat.strongRecOn with
    | _ N ih =>
      intro a tm W hm hR hk hi
      obtain ⟨e, a₁, w₁, ⟨s', h', hk', hi', hd, hq⟩, harr⟩ := round a hR D tm W hk hi b (.inLoop c :: k) cs
      cases e with
      | normal =>
        obtain ⟨a', hR', hlt, hS, hB⟩ := hq
        obtain ⟨tm', ds⟩ := a₁
        cases hd
        obtain ⟨e₂, a₂, w₂, hq₂, harr₂⟩ := ih (m a') (by omega) a' tm' w₁ (Nat.le_refl _) hR' (hk'.sub hS) (hi'.sub hB)
        exact ⟨e₂, a₂, w₂, hq₂, .of_steps (Steps.trans harr (.one step_inLoop)) harr₂⟩
      | exit id => exact ⟨_, a₁, w₁, ⟨s', h', hk', hi', hd, hq⟩, .pass (x := .inLoop c) rfl (fun _ _ => .inl (by simp)) harr⟩
      | goto l => exact ⟨_, a₁, w₁, ⟨s', h', hk', hi', hd, hq⟩, .pass (x := .inLoop c) rfl (fun _ _ => .inl (by simp)) harr⟩
      | ret => exact ⟨_, a₁, w₁, ⟨s', h', hk', hi', hd, hq⟩, .pass (x := .inLoop c) rfl (fun _ _ => .inl (by simp)) harr⟩
      | panic ch => exact ⟨_, a₁, w₁, ⟨s', h', hk', hi', hd, hq⟩, .pass (x := .inLoop c) rfl (fun _ _ => .inl (by simp)) harr⟩
      | outgrown => exact ⟨_, a₁, w₁, ⟨s', h', hk', hi', hd, hq⟩, .pass (x := .inLoop c) rfl (fun _ _ => .inl (by simp)) harr⟩
  obtain ⟨e, a', w', hq, harr⟩ := key (m a0) a0 tm W (Nat.le_refl _) hr (hk.sub hs) (hi.sub hb)
  exact ⟨e, a', w', hq, .of_steps (.one step_loop) harr⟩
end
section
variable {P : Program} {w0 : World} {n : Nat} {Q : AQ} {s : Sl} {h : List Bx} {rest : List CO} {g : Option (Option Tmp × Bool)} {d : Nat} {ty : TypeId} {op : Op}
theorem ac_nil (H : Q .normal s h) : AC P w0 n Q [] s h := H
def Wan (s : Sl) (g : Option (Option Tmp × Bool)) (yes : Bool) : Prop := ∀ n tm, Knows n s tm → wants g tm = yes
theorem wan_free : Wan s none true := fun _ _ _ => rfl
theorem wan_slot {k : Nat} {b x : Bool} (hs : lk s k = some (.bool x)) : Wan s (some (some k, b)) (x == b) := fun n tm hk => by
  simp only [wants, Option.bind_some, hk.2 k _ hs]; cases x <;> cases b <;> rfl
theorem wan_onT {k : Nat} {x : Bool} (hs : lk s k = some (.bool x)) (hx : x = true) : Wan s (some (some k, true)) true := by
  have := wan_slot (b := true) hs; rw [hx] at this; exact this
theorem wan_onF {k : Nat} {x : Bool} (hs : lk s k = some (.bool x)) (hx : x = false) : Wan s (some (some k, false)) true := by
  have := wan_slot (b := false) hs; rw [hx] at this; exact this
theorem wan_offT {k : Nat} {x : Bool} (hs : lk s k = some (.bool x)) (hx : x = false) : Wan s (some (some k, true)) false := by
  have := wan_slot (b := true) hs; rw [hx] at this; exact this
theorem wan_offF {k : Nat} {x : Bool} (hs : lk s k = some (.bool x)) (hx : x = true) : Wan s (some (some k, false)) false := by
  have := wan_slot (b := false) hs; rw [hx] at this; exact this
/-- What a call of a function comes to, where nothing that was there has turned: it hands back a value. -/
def Ct (P : Program) (f : FuncId) (args : Array Value) (w0 : World) (h : List Bx) (Φ : Value → List Bx → Prop) : Prop :=
  (∀ W, (callFunc f args).run P W = .ok (.enter f args) W) ∧ ∀ W, Inv w0 h W → Calls P f args W (fun e W' => ∃ v h', e = .returned v ∧ Inv w0 h' W' ∧ Φ v h')
/-- It yields v and turns nothing of what is held, whatever is held beside h. -/
def Cz (P : Program) (w0 : World) (h : List Bx) (e : Sem Next) (v : Value) : Prop := ∀ h', h.Sublist h' → ∀ W, Inv w0 h' W →
  e.run P W = .ok (.value v) W ∨ ∃ f args, e.run P W = .ok (.enter f args) W ∧ Ct P f args w0 h' (fun u h'' => u = v ∧ h'' = h')
/-- An operation that is calm: v is what its slot holds behind it. -/
def Y (P : Program) (w0 : World) (n : Nat) (s : Sl) (h : List Bx) (c : CO) (v : Value) : Prop :=
  (Wan s c.g false ∧ v = undef) ∨ (Wan s c.g true ∧ ∀ tm, Knows n s tm → Cz P w0 h (execOp (Act.eval ⟨tm, []⟩) c.oper) v)
theorem ac_y {v : Value} (hy : Y P w0 n s h ⟨some d, op, ty, g⟩ v) (hd : Nat.blt d n = true) (H : AC P w0 n Q rest ((d, v) :: s) h) : AC P w0 n Q (⟨some d, op, ty, g⟩ :: rest) s h := fun D tm W hk hi => by
  rcases hy with ⟨hw, rfl⟩ | ⟨hw, hy⟩
  · exact .inl ⟨hw n tm hk, _, hk.put hd, H⟩
  · refine .inr ⟨hw n tm hk, ?_⟩
    rcases hy tm hk h (List.Sublist.refl _) W hi with e | ⟨f, args, e, hct⟩
    · simp only [Oper.wp, ev_defers tm D, e, Oper.upon]
      rw [show (CO.oper ⟨some d, op, ty, g⟩).dst = some d from rfl, put_eq]; exact ⟨rfl, _, h, hk.put hd, hi, H⟩
    · simp only [Oper.wp, ev_defers tm D, e, Oper.upon]
      refine (hct.2 W hi).mono ?_
      rintro e W1 ⟨v, h', rfl, hi', rfl, rfl⟩
      show Act.defers (Act.put _ _ _) = D ∧ _
      rw [show (CO.oper ⟨some d, op, ty, g⟩).dst = some d from rfl, put_eq]
      exact ⟨rfl, _, h', hk.put hd, hi', H⟩
theorem ac_off0 (hw : Wan s g false) (H : AC P w0 n Q rest s h) : AC P w0 n Q (⟨none, op, ty, g⟩ :: rest) s h :=
  fun D tm _ hk _ => .inl ⟨hw n tm hk, _, hk, H⟩
/-- Behind an undecided guard: both ways. -/
theorem ac_guard {k : Nat} {b x : Bool} {o : Option Tmp} (hs : lk s k = some (.bool x))
    (H1 : x = true → AC P w0 n Q (⟨o, op, ty, some (some k, b)⟩ :: rest) s h) (H2 : x = false → AC P w0 n Q (⟨o, op, ty, some (some k, b)⟩ :: rest) s h) : AC P w0 n Q (⟨o, op, ty, some (some k, b)⟩ :: rest) s h := by
  cases x
  · exact H2 rfl
  · exact H1 rfl
theorem y_off {c : CO} (hw : Wan s c.g false) : Y P w0 n s h c undef := .inl ⟨hw, rfl⟩
/-- An operation that hands back a value and turns nothing. -/
theorem y_yield {c : CO} {v : Value} (hw : Wan s c.g true)
    (hv : ∀ tm W, Knows n s tm → Inv w0 h W → (execOp (Act.eval ⟨tm, []⟩) c.oper).run P W = .ok (.value v) W) : Y P w0 n s h c v :=
  .inr ⟨hw, fun tm hk h' hs W hi => .inl (hv tm W hk (hi.sub hs))⟩
theorem rho_ok {tm : Array Value} (hk : Knows n s tm) (ho : oks s op = true) (c : CO) (hc : c.op = op) : execOp (Act.eval ⟨tm, []⟩) c.oper = execOp (rho s) c.oper := by
  subst hc
  refine execOp_congr c.oper (fun cs b e => ?_) (fun x hx => ?_)
  · simp only [CO.oper] at e; simp [oks, e] at ho
  · simp only [oks, Bool.and_eq_true, List.all_eq_true] at ho
    have := ho.2 x (Array.mem_toList_iff.2 hx)
    obtain ⟨v, hv⟩ := Option.isSome_iff_exists.1 this
    rw [ev_ok hk hv, rho, hv]; rfl
variable {o : Option Tmp}
theorem y_val {v : Value} (hw : Wan s g true) (ho : oks s op = true)
    (hv : ∀ W, Inv w0 h W → (execOp (rho s) (CO.oper ⟨o, op, ty, g⟩)).run P W = .ok (.value v) W) : Y P w0 n s h ⟨o, op, ty, g⟩ v :=
  y_yield hw (fun tm W hk hi => by rw [rho_ok hk ho _ rfl]; exact hv W hi)
theorem y_move {x : Operand} {v : Value} (hx : ev s x = some v) (hw : Wan s g true) : Y P w0 n s h ⟨o, .move x, ty, g⟩ v :=
  y_yield hw (fun tm W hk _ => by rw [← ev_ok (ds := []) hk hx]; rfl)
theorem y_assign {x : Operand} {v : Value} (hx : ev s x = some v) (hw : Wan s g true) : Y P w0 n s h ⟨o, .assign x, ty, g⟩ v :=
  y_yield hw (fun tm W hk _ => by rw [← ev_ok (ds := []) hk hx]; rfl)
theorem y_pick {c x y : Operand} {t : Bool} {v u : Value} (hc : ev s c = some (.bool t)) (hx : ev s x = some v) (hy : ev s y = some u) (hw : Wan s g true) :
    Y P w0 n s h ⟨o, .pick c x y, ty, g⟩ (if t then v else u) :=
  y_yield hw (fun tm W hk _ => by
    rw [← ev_ok (ds := []) hk hx, ← ev_ok (ds := []) hk hy]
    simp only [execOp, CO.oper, ev_ok (ds := []) hk hc, asBool]
    cases t <;> rfl)
theorem y_pickT {c x y : Operand} {t : Bool} {v u : Value} (hc : ev s c = some (.bool t)) (ht : t = true) (hx : ev s x = some v) (hy : ev s y = some u) (hw : Wan s g true) :
    Y P w0 n s h ⟨o, .pick c x y, ty, g⟩ v := by have := y_pick (P := P) (w0 := w0) (n := n) (h := h) (o := o) (ty := ty) hc hx hy hw; rwa [ht] at this
theorem y_pickF {c x y : Operand} {t : Bool} {v u : Value} (hc : ev s c = some (.bool t)) (ht : t = false) (hx : ev s x = some v) (hy : ev s y = some u) (hw : Wan s g true) :
    Y P w0 n s h ⟨o, .pick c x y, ty, g⟩ u := by have := y_pick (P := P) (w0 := w0) (n := n) (h := h) (o := o) (ty := ty) hc hx hy hw; rwa [ht] at this
/-- A new block of one's own. -/
theorem ac_new {cs : Array Value} {t : TypeId} (hw : Wan s g true) (hd : Nat.blt d n = true) (ho : oks s op = true)
    (hv : ∀ W, Inv w0 h W → (execOp (rho s) (CO.oper ⟨some d, op, ty, g⟩)).run P W = .ok (.value (.pointer (some ⟨W.heap.size, 0, none⟩))) (W.alloc (.cells cs t)))
    (H : ∀ r, AC P w0 n Q rest ((d, .pointer (some ⟨r, 0, none⟩)) :: s) (⟨r, cs, t⟩ :: h)) : AC P w0 n Q (⟨some d, op, ty, g⟩ :: rest) s h := fun D tm W hk hi => .inr ⟨hw n tm hk, by
    simp only [Oper.wp, ev_defers tm D]
    rw [rho_ok hk ho _ rfl, hv W hi]
    simp only [Oper.upon]
    rw [show (CO.oper ⟨some d, op, ty, g⟩).dst = some d from rfl, put_eq]; exact ⟨rfl, _, _, hk.put hd, hi.alloc cs t, H W.heap.size⟩⟩
/-- A store into a block of one's own. -/
theorem ac_store {t : TypeId} {x y : Operand} {r i : Nat} {bt : TypeId} {cs : Array Value} {u : Value} {vs : List Value} {h' : List Bx} (hx : ev s x = some (.pointer (some ⟨r, i, none⟩))) (hy : ev s y = some u) (hu : u.cells.toList = vs)
    (hw : Wan s g true) {cs' : Array Value} (hup : Upd r bt cs cs' h h') (hcs : setsA cs i vs = cs')
    (hv : ∀ W, Inv w0 h W → (do Instr.storeAt t (.pointer (some ⟨r, i, none⟩)) u; pure Next.skip : Sem Next).run P W = .ok .skip (setMany W r i vs))
    (H : AC P w0 n Q rest s h') : AC P w0 n Q (⟨none, .store t x y, ty, g⟩ :: rest) s h := fun D tm W hk hi => .inr ⟨hw n tm hk, by
    have e : (execOp (Act.eval ⟨tm, []⟩) (CO.oper ⟨none, .store t x y, ty, g⟩)).run P W = .ok .skip (setMany W r i vs) := by
      rw [← hv W hi, ← ev_ok (ds := []) hk hx, ← ev_ok (ds := []) hk hy]; rfl
    simp only [Oper.wp, ev_defers tm D, e, Oper.upon]
    exact ⟨rfl, s, h', hk, hi.upds (hcs ▸ hup), H⟩⟩
theorem run_call {c : Operand} {f : FuncId} {first cap : Array Value} {os : Array Operand} {tys : Array TypeId} {vs av : List Value} {Φ : Value → List Bx → Prop} {tm : Array Value} {W : World} (hk : Knows n s tm) (hx : ev s c = some (.func (.func f) first cap))
    (ha : evs s os.toList = some vs) (has : first.toList ++ vs ++ cap.toList = av) (hc : Ct P f av.toArray w0 h Φ) :
    (execOp (Act.eval ⟨tm, []⟩) (CO.oper ⟨o, .call ⟨.value c, os, tys⟩, ty, g⟩)).run P W = .ok (.enter f av.toArray) W := by
  have ea : os.map (Act.eval ⟨tm, []⟩) = vs.toArray := by rw [← evs_ok (ds := []) hk ha, ← List.map_toArray]
  rw [← hc.1 W]
  simp only [execOp, CO.oper, resolve, ea, ev_ok (ds := []) hk hx, Deferred.ofValue, pure_bind, invoke]
  subst has
  rw [show first ++ vs.toArray ++ cap = (first.toList ++ vs ++ cap.toList).toArray from Array.toList_inj.1 (by simp)]
theorem ac_callv {f : FuncId} {x : Operand} {first cap : Array Value} {os : Array Operand} {tys : Array TypeId} {vs av : List Value} {Φ : Value → List Bx → Prop} (hx : ev s x = some (.func (.func f) first cap))
    (ha : evs s os.toList = some vs) (has : first.toList ++ vs ++ cap.toList = av) (hw : Wan s g true) (hd : Nat.blt d n = true)
    (hc : Ct P f av.toArray w0 h Φ) (H : ∀ v h', Φ v h' → AC P w0 n Q rest ((d, v) :: s) h') : AC P w0 n Q (⟨some d, .call ⟨.value x, os, tys⟩, ty, g⟩ :: rest) s h := fun D tm W hk hi => .inr ⟨hw n tm hk, by
    simp only [Oper.wp, ev_defers tm D, run_call hk hx ha has hc, Oper.upon]
    refine (hc.2 W hi).mono ?_
    rintro e W1 ⟨v, h', rfl, hi', hΦ⟩
    show Act.defers (Act.put _ _ _) = D ∧ _
    rw [show (CO.oper ⟨some d, .call ⟨.value x, os, tys⟩, ty, g⟩).dst = some d from rfl, put_eq]
    exact ⟨rfl, _, h', hk.put hd, hi', H v h' hΦ⟩⟩
theorem ac_call {f : FuncId} {os : Array Operand} {tys : Array TypeId} {vs : List Value} {Φ : Value → List Bx → Prop} (ha : evs s os.toList = some vs) (hw : Wan s g true) (hd : Nat.blt d n = true)
    (hc : Ct P f vs.toArray w0 h Φ) (H : ∀ v h', Φ v h' → AC P w0 n Q rest ((d, v) :: s) h') : AC P w0 n Q (⟨some d, .call ⟨.value (.func f), os, tys⟩, ty, g⟩ :: rest) s h :=
  ac_callv rfl ha (by simp) hw hd hc H
theorem y_callv {f : FuncId} {x : Operand} {first cap : Array Value} {os : Array Operand} {tys : Array TypeId} {vs av : List Value} {v : Value} (hx : ev s x = some (.func (.func f) first cap))
    (ha : evs s os.toList = some vs) (has : first.toList ++ vs ++ cap.toList = av) (hw : Wan s g true)
    (hc : ∀ h', h.Sublist h' → Ct P f av.toArray w0 h' (fun u h'' => u = v ∧ h'' = h')) : Y P w0 n s h ⟨o, .call ⟨.value x, os, tys⟩, ty, g⟩ v :=
  .inr ⟨hw, fun tm hk h' hs W hi => .inr ⟨f, av.toArray, run_call hk hx ha has (hc h' hs), hc h' hs⟩⟩
theorem y_call {f : FuncId} {os : Array Operand} {tys : Array TypeId} {vs : List Value} {v : Value} (ha : evs s os.toList = some vs) (hw : Wan s g true)
    (hc : ∀ h', h.Sublist h' → Ct P f vs.toArray w0 h' (fun u h'' => u = v ∧ h'' = h')) : Y P w0 n s h ⟨o, .call ⟨.value (.func f), os, tys⟩, ty, g⟩ v :=
  y_callv rfl ha (by simp) hw hc
/-- The end of a walk: what the results read as, in every world that is held so. -/
def Ends (P : Program) (w0 : World) (n : Nat) (fn : Func) (Φ : Value → List Bx → Prop) : AQ := fun e s h => (e = .ret ∨ e = .normal) ∧ ∃ v h', (∀ tm W, Knows n s tm → Inv w0 h W → (results fn tm).run P W = .ok v W ∧ Inv w0 h' W) ∧ Φ v h'
def argSl : Nat → List Value → Sl
  | _, [] => []
  | i, v :: vs => (i, v) :: argSl (i + 1) vs
theorem lk_argSl : ∀ (vs : List Value) (i j : Nat) (v : Value), lk (argSl i vs) j = some v → i ≤ j ∧ vs[j - i]? = some v
  | [], _, _, _, h => by cases h
  | u :: vs, i, j, v, h => by
    simp only [argSl, lk] at h
    cases hb : (i == j) with
    | true => rw [hb] at h; have := eq_of_beq hb; subst this; simp only [cond_true, Option.some.injEq] at h; simp [h]
    | false =>
      rw [hb] at h
      have hne : i ≠ j := ne_of_beq_false hb
      obtain ⟨h1, h2⟩ := lk_argSl vs (i + 1) j v h
      refine ⟨by omega, ?_⟩
      rw [show j - i = (j - (i + 1)) + 1 by omega]; simpa using h2
theorem aw_ct {f : FuncId} {fn : Func} {c : Code} {vs : List Value} {Φ : Value → List Bx → Prop} (hf : P.funcs[f]? = some fn) (hb : fn.body = some c) (hn : fn.ntmps = n) (hl : Nat.ble vs.length n = true)
    (hcall : ∀ W, (callFunc f vs.toArray).run P W = .ok (.enter f vs.toArray) W)
    (H : AW P w0 n c (Ends P w0 n fn Φ) (argSl 0 vs) h) : Ct P f vs.toArray w0 h Φ :=
  ⟨hcall, fun W hi => calls_of_wp hf hb (wp_mono (H [] _ W (by
    have hl' : vs.length ≤ n := Nat.le_of_ble_eq_true hl
    refine ⟨by simp [hn]; omega, fun i v hv => ?_⟩
    have := lk_argSl vs 0 i v hv
    simp only [Nat.zero_le, Nat.sub_zero, true_and] at this
    obtain ⟨hlt, _⟩ := List.getElem?_eq_some_iff.1 this
    rw [Array.getElem?_append_left (by simpa using hlt)]; simpa using this) hi) fun e a W' hp => by
    obtain ⟨s', h', hk, hi', hd, he, v, h2, hr, hΦ⟩ := hp
    obtain ⟨tm', ds⟩ := a
    cases hd
    have := hr tm' W' hk hi'
    rcases he with rfl | rfl <;> exact ⟨rfl, v, this.1, v, h2, rfl, this.2, hΦ⟩)⟩
end
end Go.Proofs.YtpmjbobgglgnaaaGreatDoor
