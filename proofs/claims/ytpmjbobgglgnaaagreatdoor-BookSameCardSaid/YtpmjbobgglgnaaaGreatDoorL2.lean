/- lex.piece's iterator: the bytes that a function takes. -/
import Derived.Test.YtpmjbobgglgnaaaGreatDoorL1
import Derived.Test.YtpmjbobgglgnaaaGreatDoorS1
import Derived.Test.YtpmjbobgglgnaaaGreatDoorX1
import Derived.Test.YtpmjbobgglgnaaaGreatDoorD2
namespace Go.Proofs.YtpmjbobgglgnaaaGreatDoor
open Go.RowKit Go.Shelf Go.Lib
set_option linter.unusedVariables false
set_option linter.unusedSimpArgs false
section
variable {w0 : World} {n : Nat} {s : Sl} {h : List Bx} {dd : Option Tmp} {x : Operand} {ty t : TypeId} {g : Option (Option Tmp × Bool)}
/-- A cell that was there. -/
theorem y_loadW {r i : Nat} {v : Value} (hx : ev s x = some (.pointer (some ⟨r, i, none⟩))) (hc : w0.cell? ⟨r, i, none⟩ = some v) (ht : Nat.blt t 416 = true) (hs : lkN szL t = none) (hw : Wan s g true) : Y Tryz.prog w0 n s h ⟨dd, .load t x, ty, g⟩ v :=
  y_yield hw (fun tm W hk hi => by
    have hlt : r < w0.heap.size := World.block_lt_of_cell? w0 (a := ⟨r, i, none⟩) hc
    have hc' : W.cell? ⟨r, i, none⟩ = some v := (hi.below.cell (p := ⟨r, i, none⟩) hlt).trans hc
    have hl : (loadVar t ⟨r, i, none⟩).run Tryz.prog W = .ok v W := by
      unfold loadVar
      rw [Sem.run_bind, (isSc ht hs W).1]
      simp [hc']
    simp only [execOp, CO.oper, ev_ok (ds := []) hk hx, loadAt_eq, Sem.run_bind, hl]; rfl)
end
theorem wloop {α : Type} {P : Program} {D : List Deferred} {c : Code} {Qx : Exit → Act → World → Prop} (St : α → Array Value → World → Prop) (m : α → Nat)
    (round : ∀ a tm W, St a tm W → c.wp P (fun e act W' => (e = .normal ∧ act.defers = D ∧ ∃ a', m a' < m a ∧ St a' act.tmps W') ∨ (e ≠ .normal ∧ Qx e act W')) ⟨tm, D⟩ W) :
    ∀ a tm W, St a tm W → (Code.loop c).wp P Qx ⟨tm, D⟩ W := by
  intro a tm W hS b k cs
  have key : ∀ N a tm W, m a ≤ N → St a tm W → ∃ e a' w', Qx e a' w' ∧ Arrives P (lone (b.at ⟨tm, D⟩ (.code c :: .inLoop c :: k)) cs W) b k cs e a' w' := by
    intro N
    induction N using Nat.strongRecOn with
    | _ N ih =>
      intro a tm W hm hS
      obtain ⟨e, a₁, w₁, hq, harr⟩ := round a tm W hS b (.inLoop c :: k) cs
      rcases hq with ⟨rfl, hd, a', hlt, hS'⟩ | ⟨hne, hq⟩
      · obtain ⟨tm', ds⟩ := a₁
        cases hd
        obtain ⟨e₂, a₂, w₂, hq₂, harr₂⟩ := ih (m a') (by omega) a' tm' w₁ (Nat.le_refl _) hS'
        exact ⟨e₂, a₂, w₂, hq₂, .of_steps (Steps.trans harr (.one step_inLoop)) harr₂⟩
      · cases e with
        | normal => exact absurd rfl hne
        | exit id => exact ⟨_, a₁, w₁, hq, .pass (x := .inLoop c) rfl (fun _ _ => .inl (by simp)) harr⟩
        | goto l => exact ⟨_, a₁, w₁, hq, .pass (x := .inLoop c) rfl (fun _ _ => .inl (by simp)) harr⟩
        | ret => exact ⟨_, a₁, w₁, hq, .pass (x := .inLoop c) rfl (fun _ _ => .inl (by simp)) harr⟩
        | panic ch => exact ⟨_, a₁, w₁, hq, .pass (x := .inLoop c) rfl (fun _ _ => .inl (by simp)) harr⟩
        | outgrown => exact ⟨_, a₁, w₁, hq, .pass (x := .inLoop c) rfl (fun _ _ => .inl (by simp)) harr⟩
  obtain ⟨e, a', w', hq, harr⟩ := key (m a) a tm W (Nat.le_refl _) hS
  exact ⟨e, a', w', hq, .of_steps (.one step_loop) harr⟩
theorem wplIn_val {n : Nat} {P : Program} {ops : Array Oper} {Q : Exit → Act → World → Prop} {o : Oper} {rest : List Oper} {a : Act} {W W' : World} {v : Value} (hw : Region.wanted o (yielded ops a.tmps) = true) (he : (execOp a.eval o).run P W = .ok (.value v) W')
    (H : wpListIn Fence.wide n P ops Q rest (a.put o.dst v) W') : wpListIn Fence.wide n P ops Q (o :: rest) a W := by
  unfold wpListIn
  rw [if_pos hw]
  refine ⟨fun _ _ => trivial, ?_⟩
  show o.uponIn _ _ _ _ _ _ ((execOp a.eval o).run P W)
  rw [he]; exact H
theorem wplIn_round {n : Nat} {P : Program} {ops : Array Oper} {Q : Exit → Act → World → Prop} {o : Oper} {rest : List Oper} {a : Act} {W : World} {l : Nat} {fn : FuncId} {tmps : Array Value} {assign body : Code} (hw : Region.wanted o (yielded ops a.tmps) = true)
    (he : (execOp a.eval o).run P W = .ok (.round l fn tmps assign body) W) {R : Ending → World → Prop} (hR : RoundIn Fence.wide (n - 1) P l fn tmps assign body W R) (hn : 1 ≤ n)
    (H : ∀ e W', R e W' → ∃ v, e = .returned v ∧ wpListIn Fence.wide n P ops Q rest (a.put o.dst v) W') : wpListIn Fence.wide n P ops Q (o :: rest) a W := by
  unfold wpListIn
  rw [if_pos hw]
  refine ⟨fun _ _ => trivial, ?_⟩
  show o.uponIn _ _ _ _ _ _ ((execOp a.eval o).run P W)
  rw [he]
  refine ⟨fun _ => hn, hR.mono ?_⟩
  intro e W' hr
  obtain ⟨v, rfl, h⟩ := H e W' hr
  exact h
def yl (l : Nat) : Value := .func (.yield l) #[] #[]
def sP (l b : Nat) : Sl := argSl 0 [yl l, .pointer (some ⟨b + 1, 0, none⟩), .pointer (some ⟨b, 0, none⟩), .pointer (some ⟨b + 1 + 1, 0, none⟩)]
def sI (l b i : Nat) : Sl := (5, .int .i64 (i : Int)) :: sP l b
structure BoxP (b : Nat) (xs : List UInt8) (m f : Nat) (W : World) : Prop where
  s : W.heap[b]? = some (.cells #[.string (ofL xs)] 9 (0, 0))
  a : W.heap[b + 1]? = some (.cells #[.int .i64 (m : Int)] 3 (0, 0))
  f : W.heap[b + 1 + 1]? = some (.cells #[.func (.func f) #[] #[]] 151 (0, 0))
theorem BoxP.below {b : Nat} {xs : List UInt8} {m f : Nat} {W W' : World} (H : BoxP b xs m f W) (hb : Below W.heap.size W W') : BoxP b xs m f W' := ⟨blk_below H.s hb, blk_below H.a hb, blk_below H.f hb⟩
theorem BoxP.keep {b : Nat} {xs : List UInt8} {m f : Nat} {W W' : World} (H : BoxP b xs m f W) (hb : KpB b W W') : BoxP b xs m f W' :=
  ⟨(hb b (by omega) (by omega)).trans H.s, (hb (b + 1) (by omega) (by omega)).trans H.a, (hb (b + 1 + 1) (by omega) (by omega)).trans H.f⟩
theorem abide {β : Type} {B : Nat} {J : β → World → Prop} (hJ : AbidesFrom B J) {s : β} {W W' : World} (h : J s W) (hb : Below W.heap.size W W') : J s W' :=
  hJ s W W' none h ⟨hb.os, hb.tape, hb.output, hb.size, fun k hk _ => hb.block k hk⟩ (fun r e => by cases e)
theorem tw_step {p : UInt8 → Bool} {xs : List UInt8} {m i : Nat} (hmi : m ≤ i) (hi : i < xs.length) (hp : p xs[i] = true) (h : (xs.drop m).takeWhile p = (xs.drop m).take (i - m) ++ (xs.drop i).takeWhile p) :
    (xs.drop m).takeWhile p = (xs.drop m).take (i + 1 - m) ++ (xs.drop (i + 1)).takeWhile p ∧ (xs.drop m).take (i + 1 - m) = (xs.drop m).take (i - m) ++ [xs[i]] := by
  have h1 : (xs.drop i).takeWhile p = xs[i] :: (xs.drop (i + 1)).takeWhile p := by rw [List.drop_eq_getElem_cons hi, List.takeWhile_cons, if_pos hp]
  have h2 : (xs.drop m).take (i + 1 - m) = (xs.drop m).take (i - m) ++ [xs[i]] := by
    rw [show i + 1 - m = (i - m) + 1 by omega, List.take_add_one]
    congr 1
    rw [List.getElem?_drop, show m + (i - m) = i by omega, List.getElem?_eq_getElem hi]
    rfl
  exact ⟨by rw [h, h1, h2]; simp, h2⟩
theorem tw_end {p : UInt8 → Bool} {xs : List UInt8} {m i : Nat} (hi : ∀ h : i < xs.length, p xs[i] = false) (h : (xs.drop m).takeWhile p = (xs.drop m).take (i - m) ++ (xs.drop i).takeWhile p) : (xs.drop m).takeWhile p = (xs.drop m).take (i - m) := by
  rw [h]
  rcases Nat.lt_or_ge i xs.length with hl | hl
  · rw [List.drop_eq_getElem_cons hl, List.takeWhile_cons, if_neg (by rw [hi hl]; simp)]; simp
  · rw [List.drop_eq_nil_of_le hl]; simp
theorem knows_args {n : Nat} {vs : List Value} (h : vs.length ≤ n) : Knows n (argSl 0 vs) (vs.toArray ++ Array.replicate (n - vs.toArray.size) undef) := by
  refine ⟨by simp; omega, fun i v hv => ?_⟩
  have := lk_argSl vs 0 i v hv
  simp only [Nat.zero_le, Nat.sub_zero, true_and] at this
  obtain ⟨hlt, _⟩ := List.getElem?_eq_some_iff.1 this
  rw [Array.getElem?_append_left (by simpa using hlt)]; simpa using this
theorem wplIn_y {n nn : Nat} {P : Program} {ops : Array Oper} {Q : Exit → Act → World → Prop} {w0 : World} {s : Sl} {h : List Bx} {d : Tmp} {v : Value} {o : Oper} {rest : List Oper} {tm : Array Value} {D : List Deferred} {W : World}
    (hy : Y P w0 nn s h (told ops o) v) (ho : o.dst = some d) (hd : Nat.blt d nn = true) (hn : 1 ≤ n) (hk : Knows nn s tm) (hi : Inv w0 h W)
    (H : ∀ tm' W', Knows nn ((d, v) :: s) tm' → Inv w0 h W' → wpListIn Fence.wide n P ops Q rest ⟨tm', D⟩ W') : wpListIn Fence.wide n P ops Q (o :: rest) ⟨tm, D⟩ W := by
  unfold wpListIn
  rw [wanted_told]
  rcases hy with ⟨hw, rfl⟩ | ⟨hw, hy⟩
  · rw [show wants (told ops o).g tm = false from hw nn tm hk]
    refine ⟨fun _ _ => trivial, ?_⟩
    rw [ho]
    exact H _ _ (hk.put hd) hi
  · rw [show wants (told ops o).g tm = true from hw nn tm hk]
    refine ⟨fun _ _ => trivial, ?_⟩
    show o.uponIn _ _ _ _ _ _ ((execOp (Act.eval ⟨tm, D⟩) o).run P W)
    rw [ev_defers, ← execOp_told ops]
    rcases hy tm hk h (List.Sublist.refl _) W hi with e | ⟨f, args, e, hct⟩
    · rw [e]
      show wpListIn _ _ _ _ _ _ (Act.put _ o.dst v) W
      rw [ho, put_eq]
      exact H _ _ (hk.put hd) hi
    · rw [e]
      refine ⟨fun _ => hn, (callsIn_wide.2 (hct.2 W hi)).mono ?_⟩
      rintro e W1 ⟨v, h', rfl, hi', rfl, rfl⟩
      show wpListIn _ _ _ _ _ _ (Act.put _ o.dst v) W1
      rw [ho, put_eq]
      exact H _ _ (hk.put hd) hi'
def QT (Pt Pf : Prop) (s0 : Sl) : AQ := fun e s _ => (e = .normal ∧ Pt ∧ Sub s0 s) ∨ (e = .exit 0 ∧ Pf)
theorem calmly_QT {Pt Pf : Prop} {s0 : Sl} : Calmly (QT Pt Pf s0) := by
  rintro c s s' h (⟨e, _⟩ | ⟨e, _⟩) <;> cases e
set_option maxHeartbeats 6000000 in
set_option maxRecDepth 100000 in
theorem piece338 (n : Nat) (hn : 1 ≤ n) (w1 : World) (xs : List UInt8) (hsm : xs.length ≤ 1048576) (m f : Nat) (hm : m ≤ xs.length) (p : UInt8 → Bool)
    (hp : ∀ (b : UInt8) (w0 : World) (h : List Bx), Ct Tryz.prog f #[.int .u8 b.toNat] w0 h (fun v h' => v = .bool (p b) ∧ h' = h)) :
    SeqStopsK Fence.wide n Tryz.prog 338 #[.pointer (some ⟨w1.heap.size + 1, 0, none⟩), .pointer (some ⟨w1.heap.size, 0, none⟩), .pointer (some ⟨w1.heap.size + 1 + 1, 0, none⟩)] (fun x : UInt8 => #[.int .u8 x.toNat]) (KpB w1.heap.size)
      (fun zs => zs = (xs.drop m).takeWhile p) (fun pre => True) ((xs.drop m).takeWhile p).length (pieceW w1 xs m f) := by
  intro l J Jx W hW hJ hJx hY h0
  have hB0 : BoxP w1.heap.size xs m f (pieceW w1 xs m f) := by
    have e1 : w1.heap.size + 1 = (w1.alloc (.cells #[.string (ofL xs)] 9)).heap.size := by rw [World.size_alloc]
    have e2 : w1.heap.size + 1 + 1 = ((w1.alloc (.cells #[.string (ofL xs)] 9)).alloc (.cells #[.int .i64 (m : Int)] 3)).heap.size := by rw [World.size_alloc, World.size_alloc]
    exact ⟨blk_alloc (blk_alloc (heap_alloc_new _ _) _) _, blk_alloc (heap_alloc_at e1 _) _, heap_alloc_at e2 _⟩
  have hB : BoxP w1.heap.size xs m f W := hB0.below hW
  refine callsIn_wide.2 (calls_of_wp Tryz.func338 rfl ?_)
  rw [show (#[.func (.yield l) #[] #[]] ++ #[.pointer (some ⟨w1.heap.size + 1, 0, none⟩), .pointer (some ⟨w1.heap.size, 0, none⟩), .pointer (some ⟨w1.heap.size + 1 + 1, 0, none⟩)] : Array Value) = [yl l, .pointer (some ⟨w1.heap.size + 1, 0, none⟩), .pointer (some ⟨w1.heap.size, 0, none⟩), .pointer (some ⟨w1.heap.size + 1 + 1, 0, none⟩)].toArray from by simp [yl], Tryz.ntmps338]
  have hk0 := knows_args (n := 26) (vs := [yl l, .pointer (some ⟨w1.heap.size + 1, 0, none⟩), .pointer (some ⟨w1.heap.size, 0, none⟩), .pointer (some ⟨w1.heap.size + 1 + 1, 0, none⟩)]) (by simp)
  have hca : W.cell? ⟨w1.heap.size + 1, 0, none⟩ = some (.int .i64 (m : Int)) := cell_rule hB.a 0
  refine wp_seq (wp_mono ((show AW Tryz.prog W 26 _ (fun e s _ => e = .normal ∧ Sub (sI l w1.heap.size m) s) (sP l w1.heap.size) [] from ?_) [] _ W hk0 (Inv.start W)) fun e a W1 hq => ?_)
  · simp only [sP, argSl]
    repeat' (first | refine ac_nil ?_ | (refine gLd ?_; first | refine z_load ?_ | refine z_loadA ?_ | refine z_loadO ?_ | refine z_loadOA ?_ | refine zl ?_ | refine zv ?_) | (refine gFd ?_; first | refine z_fieldO ?_ | refine z_field ?_ | refine zv ?_) | (refine gMv ?_; refine z_move ?_) | (refine gAs ?_; refine z_assign ?_) | (refine gBx ?_; refine zb (H := fun g => ?_)) | (refine gSt ?_; refine zo ?_) | (refine gBn ?_; first | refine z_add ?_ | refine z_sub ?_ | refine z_mul ?_ | refine z_bin ?_ | refine z_quoN ?_ | refine z_remN ?_ | refine z_quo ?_ | refine z_rem ?_ | refine z_shr ?_ | refine z_streq ?_ | refine z_strne ?_ | refine z_cat ?_ | refine zl ?_ | refine zv ?_) | (refine gPk ?_; first | refine z_pickT ?_ | refine z_pickF ?_ | refine z_pick ?_ | refine zv ?_) | (refine gEx ?_; refine z_extract ?_) | (refine gBu ?_; first | refine z_len ?_ | refine z_lenL ?_ | refine z_lenS ?_ | refine z_max ?_ | refine z_min ?_ | refine zl ?_) | (refine gIx ?_; first | refine z_indexO ?_ | refine z_index ?_) | (refine gUn ?_; first | refine z_not ?_ | refine z_neg ?_ | refine zv ?_) | (refine gCo ?_; first | refine z_conv ?_ | refine z_convW ?_ | refine zt (H := fun A c hb hO hS => ?_) | refine zl ?_ | refine zv ?_) | (refine gBd ?_; first | refine z_build ?_ | refine zv ?_) | (refine gAl ?_; first | refine za (H := fun g => ?_) | refine zn (H := fun g => ?_)) | (refine gBs ?_; refine zs (H := fun g => ?_)) | (refine gGd ?_; first | refine zgo ?_ | refine zof ?_ | refine zof0 ?_ | refine ac_guard rfl (fun hb => ?_) (fun hb => ?_)) | refine z_stridx ?_ | refine z_slLo ?_ | refine z_slHi ?_ | refine z_slLH ?_ | refine zm (H := fun g => ?_) | (refine gNc ?_; first | refine zl ?_ | refine zv ?_) | (refine aw_seq_k ?_; intro K hK) | (refine gRg ?_; refine zr ?_) | (refine gCd ?_; first | refine z1 ?_ | refine z0 ?_ | refine aw_cond rfl (fun hb => ?_) (fun hb => ?_)) | refine aw_ret ?_ | refine aw_skip ?_ | refine aw_block ?_ | refine aw_exit ?_ | (refine gRd ?_; refine zd ?_) | refine zk ?_ | ((fail_if_success (refine ad_known rfl rfl rfl (by first | rfl | assumption) ?_)); refine ad_guard rfl rfl rfl (fun hb => ?_) (fun hb => ?_)) | (simp only [aThen, aBlock, ↓reduceIte, Nat.reduceEqDiff]; first | apply_assumption -exfalso | (refine sub_and zl_ ?_)) | refine ad_pass rfl ?_ | refine ad_done (by decide +kernel) ?_ | refine ad_any (by decide +kernel) ?_ | exact fun _ h => absurd h List.not_mem_nil | refine List.forall_mem_cons.2 ⟨?_, ?_⟩ | (intro hr; exact absurd hr (by decide +kernel)) | (intro hr; refine zj ?_) | (simp only [aThen, aBlock, ↓reduceIte, Nat.reduceEqDiff]))
    refine ⟨trivial, ?_⟩
    simp only [sI, sP, argSl]
    (repeat (first | exact Sub.nil | ((apply Sub.cons'); (focus exact rfl); (focus (first | rfl | (congr 1; omega) | (simp; done))))))
  obtain ⟨s1, h1, hk1, hi1, hd1, rfl, hs1⟩ := hq
  obtain ⟨tm1, ds⟩ := a
  cases hd1
  have hk1 := hk1.sub hs1
  refine wp_block (wloop (fun i tm W => m ≤ i ∧ i ≤ xs.length ∧ (xs.drop m).takeWhile p = (xs.drop m).take (i - m) ++ (xs.drop i).takeWhile p ∧ Knows 26 (sI l w1.heap.size i) tm ∧ BoxP w1.heap.size xs m f W ∧ J ((xs.drop m).take (i - m)) W) (fun i => xs.length - i) ?_ m tm1 W1 ⟨Nat.le_refl _, hm, by simp, hk1, hB.below hi1.below, by simpa using abide hJ h0 hi1.below⟩)
  rintro i tm W2 ⟨hmi, hil, htw, hk, hbx, hJi⟩
  have hcs : W2.cell? ⟨w1.heap.size, 0, none⟩ = some (.string (ofL xs)) := cell_rule hbx.s 0
  have hcf : W2.cell? ⟨w1.heap.size + 1 + 1, 0, none⟩ = some (.func (.func f) #[] #[]) := cell_rule hbx.f 0
  obtain ⟨S0, hS0⟩ : ∃ S0, S0 = sI l w1.heap.size i := ⟨_, rfl⟩
  have hQ : Calmly (QT (∃ h : i < xs.length, p xs[i] = true) (∀ h : i < xs.length, p xs[i] = false) S0) := calmly_QT
  refine wp_seq (wp_mono ((show AW Tryz.prog W2 26 _ (QT (∃ h : i < xs.length, p xs[i] = true) (∀ h : i < xs.length, p xs[i] = false) S0) (sI l w1.heap.size i) [] from ?_) [] _ W2 hk (Inv.start W2)) fun e a W3 hq => ?_)
  · simp only [sI, sP, argSl]
    rcases Nat.lt_or_ge i xs.length with hlt | hge
    · have hd : decide ((i : Int) < (xs.length : Int)) = true := by simpa using hlt
      have he : xs[i]? = some xs[i] := List.getElem?_eq_getElem hlt
      cases hpb : p xs[i] with
      | true =>
        have hc : ∀ h, Ct Tryz.prog f #[.int .u8 xs[i].toNat] W2 h (fun v h' => v = .bool true ∧ h' = h) := fun h => hpb ▸ hp xs[i] W2 h
        repeat' (first | refine ac_nil ?_ | (refine gLd ?_; first | refine z_load ?_ | refine z_loadA ?_ | refine z_loadO ?_ | refine z_loadOA ?_ | refine zl ?_ | refine zv ?_) | (refine gFd ?_; first | refine z_fieldO ?_ | refine z_field ?_ | refine zv ?_) | (refine gMv ?_; refine z_move ?_) | (refine gAs ?_; refine z_assign ?_) | (refine gBx ?_; refine zb (H := fun g => ?_)) | (refine gSt ?_; refine zo ?_) | (refine gBn ?_; first | refine z_add ?_ | refine z_sub ?_ | refine z_mul ?_ | refine z_bin ?_ | refine z_quoN ?_ | refine z_remN ?_ | refine z_quo ?_ | refine z_rem ?_ | refine z_shr ?_ | refine z_streq ?_ | refine z_strne ?_ | refine z_cat ?_ | refine zl ?_ | refine zv ?_) | (refine gPk ?_; first | refine z_pickT ?_ | refine z_pickF ?_ | refine z_pick ?_ | refine zv ?_) | (refine gEx ?_; refine z_extract ?_) | (refine gCa ?_; first | refine zc (hc := (fun h' hs => by first | exact hc _)) (H := ?_) | refine zcv (hc := (fun h' hs => by first | exact hc _)) (H := ?_)) | (refine gBu ?_; first | refine z_len ?_ | refine z_lenL ?_ | refine z_lenS ?_ | refine z_max ?_ | refine z_min ?_ | refine zl ?_) | (refine gIx ?_; first | refine z_indexO ?_ | refine z_index ?_) | (refine gUn ?_; first | refine z_not ?_ | refine z_neg ?_ | refine zv ?_) | (refine gCo ?_; first | refine z_conv ?_ | refine z_convW ?_ | refine zt (H := fun A c hb hO hS => ?_) | refine zl ?_ | refine zv ?_) | (refine gBd ?_; first | refine z_build ?_ | refine zv ?_) | (refine gAl ?_; first | refine za (H := fun g => ?_) | refine zn (H := fun g => ?_)) | (refine gBs ?_; refine zs (H := fun g => ?_)) | (refine gGd ?_; first | refine zgo ?_ | refine zof ?_ | refine zof0 ?_ | refine ac_guard rfl (fun hb => ?_) (fun hb => ?_)) | refine z_stridx ?_ | refine z_slLo ?_ | refine z_slHi ?_ | refine z_slLH ?_ | refine zm (H := fun g => ?_) | (refine gNc ?_; first | refine zl ?_ | refine zv ?_) | (refine aw_seq_k ?_; intro K hK) | (refine gRg ?_; refine zr ?_) | (refine gCd ?_; first | refine z1 ?_ | refine z0 ?_ | refine aw_cond rfl (fun hb => ?_) (fun hb => ?_)) | refine aw_ret ?_ | refine aw_skip ?_ | refine aw_block ?_ | refine aw_exit ?_ | (refine gRd ?_; refine zd ?_) | refine zk ?_ | refine zkc (hct := (fun h' hs => by first | exact hc _)) (H := ?_) | ((fail_if_success (refine ad_known rfl rfl rfl (by first | rfl | assumption) ?_)); refine ad_guard rfl rfl rfl (fun hb => ?_) (fun hb => ?_)) | (simp only [aThen, aBlock, ↓reduceIte, Nat.reduceEqDiff]; first | apply_assumption -exfalso | (refine sub_and zl_ ?_)) | refine ad_pass rfl ?_ | refine ad_done (by decide +kernel) ?_ | refine ad_any (by decide +kernel) ?_ | exact fun _ h => absurd h List.not_mem_nil | refine List.forall_mem_cons.2 ⟨?_, ?_⟩ | (intro hr; exact absurd hr (by decide +kernel)) | (intro hr; refine zj ?_) | (simp only [aThen, aBlock, ↓reduceIte, Nat.reduceEqDiff]))
        all_goals (refine .inl ⟨rfl, ⟨hlt, hpb⟩, ?_⟩; rw [hS0]; simp only [sI, sP, argSl]; (repeat (first | exact Sub.nil | ((apply Sub.cons'); (focus exact rfl); (focus (first | rfl | (congr 1; omega) | (simp; done)))))))
      | false =>
        have hc : ∀ h, Ct Tryz.prog f #[.int .u8 xs[i].toNat] W2 h (fun v h' => v = .bool false ∧ h' = h) := fun h => hpb ▸ hp xs[i] W2 h
        repeat' (first | refine ac_nil ?_ | (refine gLd ?_; first | refine z_load ?_ | refine z_loadA ?_ | refine z_loadO ?_ | refine z_loadOA ?_ | refine zl ?_ | refine zv ?_) | (refine gFd ?_; first | refine z_fieldO ?_ | refine z_field ?_ | refine zv ?_) | (refine gMv ?_; refine z_move ?_) | (refine gAs ?_; refine z_assign ?_) | (refine gBx ?_; refine zb (H := fun g => ?_)) | (refine gSt ?_; refine zo ?_) | (refine gBn ?_; first | refine z_add ?_ | refine z_sub ?_ | refine z_mul ?_ | refine z_bin ?_ | refine z_quoN ?_ | refine z_remN ?_ | refine z_quo ?_ | refine z_rem ?_ | refine z_shr ?_ | refine z_streq ?_ | refine z_strne ?_ | refine z_cat ?_ | refine zl ?_ | refine zv ?_) | (refine gPk ?_; first | refine z_pickT ?_ | refine z_pickF ?_ | refine z_pick ?_ | refine zv ?_) | (refine gEx ?_; refine z_extract ?_) | (refine gCa ?_; first | refine zc (hc := (fun h' hs => by first | exact hc _)) (H := ?_) | refine zcv (hc := (fun h' hs => by first | exact hc _)) (H := ?_)) | (refine gBu ?_; first | refine z_len ?_ | refine z_lenL ?_ | refine z_lenS ?_ | refine z_max ?_ | refine z_min ?_ | refine zl ?_) | (refine gIx ?_; first | refine z_indexO ?_ | refine z_index ?_) | (refine gUn ?_; first | refine z_not ?_ | refine z_neg ?_ | refine zv ?_) | (refine gCo ?_; first | refine z_conv ?_ | refine z_convW ?_ | refine zt (H := fun A c hb hO hS => ?_) | refine zl ?_ | refine zv ?_) | (refine gBd ?_; first | refine z_build ?_ | refine zv ?_) | (refine gAl ?_; first | refine za (H := fun g => ?_) | refine zn (H := fun g => ?_)) | (refine gBs ?_; refine zs (H := fun g => ?_)) | (refine gGd ?_; first | refine zgo ?_ | refine zof ?_ | refine zof0 ?_ | refine ac_guard rfl (fun hb => ?_) (fun hb => ?_)) | refine z_stridx ?_ | refine z_slLo ?_ | refine z_slHi ?_ | refine z_slLH ?_ | refine zm (H := fun g => ?_) | (refine gNc ?_; first | refine zl ?_ | refine zv ?_) | (refine aw_seq_k ?_; intro K hK) | (refine gRg ?_; refine zr ?_) | (refine gCd ?_; first | refine z1 ?_ | refine z0 ?_ | refine aw_cond rfl (fun hb => ?_) (fun hb => ?_)) | refine aw_ret ?_ | refine aw_skip ?_ | refine aw_block ?_ | refine aw_exit ?_ | (refine gRd ?_; refine zd ?_) | refine zk ?_ | refine zkc (hct := (fun h' hs => by first | exact hc _)) (H := ?_) | ((fail_if_success (refine ad_known rfl rfl rfl (by first | rfl | assumption) ?_)); refine ad_guard rfl rfl rfl (fun hb => ?_) (fun hb => ?_)) | (simp only [aThen, aBlock, ↓reduceIte, Nat.reduceEqDiff]; first | apply_assumption -exfalso | (refine sub_and zl_ ?_)) | refine ad_pass rfl ?_ | refine ad_done (by decide +kernel) ?_ | refine ad_any (by decide +kernel) ?_ | exact fun _ h => absurd h List.not_mem_nil | refine List.forall_mem_cons.2 ⟨?_, ?_⟩ | (intro hr; exact absurd hr (by decide +kernel)) | (intro hr; refine zj ?_) | (simp only [aThen, aBlock, ↓reduceIte, Nat.reduceEqDiff]))
        all_goals exact .inr ⟨rfl, fun _ => hpb⟩
    · have hd : decide ((i : Int) < (xs.length : Int)) = false := by simpa using hge
      repeat' (first | refine ac_nil ?_ | (refine gLd ?_; first | refine z_load ?_ | refine z_loadA ?_ | refine z_loadO ?_ | refine z_loadOA ?_ | refine zl ?_ | refine zv ?_) | (refine gFd ?_; first | refine z_fieldO ?_ | refine z_field ?_ | refine zv ?_) | (refine gMv ?_; refine z_move ?_) | (refine gAs ?_; refine z_assign ?_) | (refine gBx ?_; refine zb (H := fun g => ?_)) | (refine gSt ?_; refine zo ?_) | (refine gBn ?_; first | refine z_add ?_ | refine z_sub ?_ | refine z_mul ?_ | refine z_bin ?_ | refine z_quoN ?_ | refine z_remN ?_ | refine z_quo ?_ | refine z_rem ?_ | refine z_shr ?_ | refine z_streq ?_ | refine z_strne ?_ | refine z_cat ?_ | refine zl ?_ | refine zv ?_) | (refine gPk ?_; first | refine z_pickT ?_ | refine z_pickF ?_ | refine z_pick ?_ | refine zv ?_) | (refine gEx ?_; refine z_extract ?_) | (refine gBu ?_; first | refine z_len ?_ | refine z_lenL ?_ | refine z_lenS ?_ | refine z_max ?_ | refine z_min ?_ | refine zl ?_) | (refine gIx ?_; first | refine z_indexO ?_ | refine z_index ?_) | (refine gUn ?_; first | refine z_not ?_ | refine z_neg ?_ | refine zv ?_) | (refine gCo ?_; first | refine z_conv ?_ | refine z_convW ?_ | refine zt (H := fun A c hb hO hS => ?_) | refine zl ?_ | refine zv ?_) | (refine gBd ?_; first | refine z_build ?_ | refine zv ?_) | (refine gAl ?_; first | refine za (H := fun g => ?_) | refine zn (H := fun g => ?_)) | (refine gBs ?_; refine zs (H := fun g => ?_)) | (refine gGd ?_; first | refine zgo ?_ | refine zof ?_ | refine zof0 ?_ | refine ac_guard rfl (fun hb => ?_) (fun hb => ?_)) | refine z_stridx ?_ | refine z_slLo ?_ | refine z_slHi ?_ | refine z_slLH ?_ | refine zm (H := fun g => ?_) | (refine gNc ?_; first | refine zl ?_ | refine zv ?_) | (refine aw_seq_k ?_; intro K hK) | (refine gRg ?_; refine zr ?_) | (refine gCd ?_; first | refine z1 ?_ | refine z0 ?_ | refine aw_cond rfl (fun hb => ?_) (fun hb => ?_)) | refine aw_ret ?_ | refine aw_skip ?_ | refine aw_block ?_ | refine aw_exit ?_ | (refine gRd ?_; refine zd ?_) | refine zk ?_ | ((fail_if_success (refine ad_known rfl rfl rfl (by first | rfl | assumption) ?_)); refine ad_guard rfl rfl rfl (fun hb => ?_) (fun hb => ?_)) | (simp only [aThen, aBlock, ↓reduceIte, Nat.reduceEqDiff]; first | apply_assumption -exfalso | (refine sub_and zl_ ?_)) | refine ad_pass rfl ?_ | refine ad_done (by decide +kernel) ?_ | refine ad_any (by decide +kernel) ?_ | exact fun _ h => absurd h List.not_mem_nil | refine List.forall_mem_cons.2 ⟨?_, ?_⟩ | (intro hr; exact absurd hr (by decide +kernel)) | (intro hr; refine zj ?_) | (simp only [aThen, aBlock, ↓reduceIte, Nat.reduceEqDiff]))
      all_goals exact .inr ⟨rfl, fun h => absurd h (by omega)⟩
  obtain ⟨s3, h3, hk3, hi3, hd3, hq⟩ := hq
  obtain ⟨tm3, ds3⟩ := a
  cases hd3
  have hbx3 := hbx.below hi3.below
  have hJ3 := abide hJ hJi hi3.below
  rcases hq with ⟨rfl, ⟨hlt, hpb⟩, hs3⟩ | ⟨rfl, hpf⟩
  rotate_left
  · refine .inr ⟨by simp, ?_⟩
    have hfin := tw_end hpf htw
    simp only [Exit.inBlock, if_true]
    exact ⟨rfl, .tuple #[], by simp [results, Tryz.results338, go_sem], ⟨_, rfl⟩, .inl ⟨_, rfl, hfin ▸ hJ3⟩⟩
  have hk3 := hk3.sub hs3
  have hcs3 : W3.cell? ⟨w1.heap.size, 0, none⟩ = some (.string (ofL xs)) := cell_rule hbx3.s 0
  have he : xs[i]? = some xs[i] := List.getElem?_eq_getElem hlt
  obtain ⟨hst1, hst2⟩ := tw_step hmi hlt hpb htw
  have hlen : ((xs.drop m).take (i - m)).length < ((xs.drop m).takeWhile p).length := by
    rw [hst1, hst2]
    simp only [List.length_append, List.length_cons, List.length_nil]
    omega
  refine wp_seq ?_
  refine wp_block ?_
  refine wp_seq ((wpIn_wide (n := n)).1 (wpIn_region_list ?_))
  subst hS0
  simp only [sI, sP, argSl] at hk3
  refine wplIn_y (s := _) (h := []) (v := yl l) (y_move rfl wan_free) rfl rfl hn hk3 (Inv.start W3) (fun tm4 W4 hk4 hi4 => ?_)
  refine wplIn_y (v := .string (ofL xs)) (y_loadW rfl hcs3 rfl rfl wan_free) rfl rfl hn hk4 hi4 (fun tm5 W5 hk5 hi5 => ?_)
  refine wplIn_y (v := .int .i64 i) (y_move rfl wan_free) rfl rfl hn hk5 hi5 (fun tm6 W6 hk6 hi6 => ?_)
  refine wplIn_y (v := .int .u8 xs[i].toNat) ?_ rfl rfl hn hk6 hi6 (fun tm7 W7 hk7 hi7 => ?_)
  · exact y_stridx (i := (i : Int)) (m := i) (kk := .i64) rfl rfl rfl rfl he wan_free
  have hW7 : J ((xs.drop m).take (i - m)) W7 := abide hJ hJ3 hi7.below
  obtain ⟨fn, tms, asg, bod, hrun, hround⟩ := hY _ xs[i] W7 hW7 hlen
  have hbx7 := hbx3.below hi7.below
  refine wplIn_round (l := l) (fn := fn) (tmps := tms) (assign := asg) (body := bod) rfl ?_ hround hn ?_
  · rw [← hrun, ev_defers]
    have e20 : Act.eval ⟨tm7, []⟩ (.tmp 20) = yl l := ev_ok hk7 rfl
    have e23 : Act.eval ⟨tm7, []⟩ (.tmp 23) = .int .u8 xs[i].toNat := ev_ok hk7 rfl
    simp only [execOp, resolve, e20, e23, List.map_toArray, List.map_cons, List.map_nil, yl, Deferred.ofValue, pure_bind, invoke]
    rw [Array.empty_append]
  rintro e W8 (⟨rfl, hJ8, hkp⟩ | ⟨rfl, hJ8⟩)
  · refine ⟨_, rfl, ?_⟩
    rw [put_eq]
    have hk8 := hk7.put (d := 24) (v := .bool true) rfl
    refine wplIn_y (v := .bool (!true)) (y_not rfl wan_free) rfl rfl hn hk8 (Inv.start W8) (fun tm9 W9 hk9 hi9 => ?_)
    have hbx9 := (hbx7.keep hkp).below hi9.below
    have hJ9 := abide hJ hJ8 hi9.below
    rw [← hst2] at hJ9
    refine wpListIn_nil ?_
    refine wp_cond_split (ev_ok hk9 rfl) (fun e => by cases e) (fun _ => wp_skip ?_)
    refine wp_mono ((show AW Tryz.prog W9 26 _ (fun e s _ => e = .normal ∧ Sub (sI l w1.heap.size (i + 1)) s) _ [] from ?_) [] _ W9 hk9 (Inv.start W9)) fun e a W1 hq => ?_
    · repeat' (first | refine ac_nil ?_ | (refine gLd ?_; first | refine z_load ?_ | refine z_loadA ?_ | refine z_loadO ?_ | refine z_loadOA ?_ | refine zl ?_ | refine zv ?_) | (refine gFd ?_; first | refine z_fieldO ?_ | refine z_field ?_ | refine zv ?_) | (refine gMv ?_; refine z_move ?_) | (refine gAs ?_; refine z_assign ?_) | (refine gBx ?_; refine zb (H := fun g => ?_)) | (refine gSt ?_; refine zo ?_) | (refine gBn ?_; first | refine z_add ?_ | refine z_sub ?_ | refine z_mul ?_ | refine z_bin ?_ | refine z_quoN ?_ | refine z_remN ?_ | refine z_quo ?_ | refine z_rem ?_ | refine z_shr ?_ | refine z_streq ?_ | refine z_strne ?_ | refine z_cat ?_ | refine zl ?_ | refine zv ?_) | (refine gPk ?_; first | refine z_pickT ?_ | refine z_pickF ?_ | refine z_pick ?_ | refine zv ?_) | (refine gEx ?_; refine z_extract ?_) | (refine gBu ?_; first | refine z_len ?_ | refine z_lenL ?_ | refine z_lenS ?_ | refine z_max ?_ | refine z_min ?_ | refine zl ?_) | (refine gIx ?_; first | refine z_indexO ?_ | refine z_index ?_) | (refine gUn ?_; first | refine z_not ?_ | refine z_neg ?_ | refine zv ?_) | (refine gCo ?_; first | refine z_conv ?_ | refine z_convW ?_ | refine zt (H := fun A c hb hO hS => ?_) | refine zl ?_ | refine zv ?_) | (refine gBd ?_; first | refine z_build ?_ | refine zv ?_) | (refine gAl ?_; first | refine za (H := fun g => ?_) | refine zn (H := fun g => ?_)) | (refine gBs ?_; refine zs (H := fun g => ?_)) | (refine gGd ?_; first | refine zgo ?_ | refine zof ?_ | refine zof0 ?_ | refine ac_guard rfl (fun hb => ?_) (fun hb => ?_)) | refine z_stridx ?_ | refine z_slLo ?_ | refine z_slHi ?_ | refine z_slLH ?_ | refine zm (H := fun g => ?_) | (refine gNc ?_; first | refine zl ?_ | refine zv ?_) | (refine aw_seq_k ?_; intro K hK) | (refine gRg ?_; refine zr ?_) | (refine gCd ?_; first | refine z1 ?_ | refine z0 ?_ | refine aw_cond rfl (fun hb => ?_) (fun hb => ?_)) | refine aw_ret ?_ | refine aw_skip ?_ | refine aw_block ?_ | refine aw_exit ?_ | (refine gRd ?_; refine zd ?_) | refine zk ?_ | ((fail_if_success (refine ad_known rfl rfl rfl (by first | rfl | assumption) ?_)); refine ad_guard rfl rfl rfl (fun hb => ?_) (fun hb => ?_)) | (simp only [aThen, aBlock, ↓reduceIte, Nat.reduceEqDiff]; first | apply_assumption -exfalso | (refine sub_and zl_ ?_)) | refine ad_pass rfl ?_ | refine ad_done (by decide +kernel) ?_ | refine ad_any (by decide +kernel) ?_ | exact fun _ h => absurd h List.not_mem_nil | refine List.forall_mem_cons.2 ⟨?_, ?_⟩ | (intro hr; exact absurd hr (by decide +kernel)) | (intro hr; refine zj ?_) | (simp only [aThen, aBlock, ↓reduceIte, Nat.reduceEqDiff]))
      refine ⟨trivial, ?_⟩
      simp only [sI, sP, argSl]
      (repeat (first | exact Sub.nil | ((apply Sub.cons'); (focus exact rfl); (focus (first | rfl | (congr 1; omega) | (simp; done))))))
    obtain ⟨s10, h10, hk10, hi10, hd10, rfl, hs10⟩ := hq
    exact .inl ⟨rfl, hd10, i + 1, by omega, by omega, by omega, hst1, hk10.sub hs10, hbx9.below hi10.below, abide hJ hJ9 hi10.below⟩
  · refine ⟨_, rfl, ?_⟩
    rw [put_eq]
    have hk8 := hk7.put (d := 24) (v := .bool false) rfl
    refine wplIn_y (v := .bool (!false)) (y_not rfl wan_free) rfl rfl hn hk8 (Inv.start W8) (fun tm9 W9 hk9 hi9 => ?_)
    refine wpListIn_nil ?_
    refine wp_cond_split (ev_ok hk9 rfl) (fun _ => wp_ret ?_) (fun e => by cases e)
    exact .inr ⟨by simp, rfl, .tuple #[], by simp [results, Tryz.results338, go_sem], ⟨_, rfl⟩, .inr ⟨_, trivial, abide hJx hJ8 hi9.below⟩⟩
end Go.Proofs.YtpmjbobgglgnaaaGreatDoor
