/- strings.IndexFunc's loop over a text of bytes below 128: the index of the first letter that the function takes so. -/
import Derived.Test.YtpmjbobgglgnaaaGreatDoorW2
import Derived.Lib.OthersKept
import Derived.Laws.Small
namespace Go.Proofs.YtpmjbobgglgnaaaGreatDoor
open Go.RowKit Go.Lib
set_option linter.unusedVariables false
set_option linter.unusedSimpArgs false
def idxF (p : Nat → Bool) (t : Bool) : Nat → List UInt8 → Int
  | _, [] => -1
  | i, b :: l => if (p b.toNat == t) = true then (i : Int) else idxF p t (i + 1) l
theorem seq_post {P : Program} {w0 : World} {n : Nat} {D : List Deferred} {Q : AQ} {x y : Code} {a : Act} {W : World} (H : x.wp P (post w0 n D (aThen (AW P w0 n y Q) Q)) a W) : (Code.seq x y).wp P (post w0 n D Q) a W :=
  wp_seq (wp_mono H fun e a W' hp => by
    obtain ⟨s', h', hk', hi', hd, hq⟩ := hp
    obtain ⟨tm', ds⟩ := a
    cases hd
    cases e with
    | normal => exact hq _ tm' W' hk' hi'
    | _ => exact ⟨s', h', hk', hi', rfl, hq⟩)
theorem Inv.iterAt {w0 W : World} {h : List Bx} (H : Inv w0 h W) {g : Nat} {s : ByteArray} {pos : Nat} (hk : W.heap[g]? = some (.stringIter s pos)) (hg : w0.heap.size ≤ g) (pos' : Nat) : Inv w0 h (W.iterAt g s pos') :=
  ⟨below_iterAt H.below hg s pos', fun x hx => by
    obtain ⟨fr, h1, h2⟩ := H.own x hx
    refine ⟨fr, ?_, h2⟩
    rw [iterAt_other _ _ _ _ _ (fun e => by rw [e, hk] at h1; cases h1)]; exact h1, H.ge, H.nodup⟩
/-- A loop over a text: what a round does, told of the world behind 'next'. -/
theorem iter_loop {P : Program} {w0 : World} {n : Nat} {Q : AQ} {s0 : Sl} {h : List Bx} {c : Code} {g : Nat} {xs : List UInt8} (hg : w0.heap.size ≤ g)
    (R : Nat → Prop)
    (round : ∀ pos, pos < xs.length → R pos → ∀ D tm W, Knows n s0 tm → W.heap[g]? = some (.stringIter (ofL xs) pos) →
      c.wp P (post (W.iterAt g (ofL xs) (pos + 1)) n D (fun e s _ => (e = .normal ∧ Sub s0 s ∧ R (pos + 1)) ∨ (e ≠ .normal ∧ Q e s h))) ⟨tm, D⟩ W)
    (last : R xs.length → ∀ D tm W, Knows n s0 tm → W.heap[g]? = some (.stringIter (ofL xs) xs.length) →
      c.wp P (post W n D (fun e s _ => e ≠ .normal ∧ Q e s h)) ⟨tm, D⟩ W) (hR : R 0) :
    ∀ D tm W, Knows n s0 tm → Inv w0 h W → W.heap[g]? = some (.stringIter (ofL xs) 0) → (Code.loop c).wp P (post w0 n D Q) ⟨tm, D⟩ W := by
  intro D tm W hk hi hh b k cs
  have key : ∀ m pos tm W, m + pos = xs.length → R pos → Knows n s0 tm → Inv w0 h W → W.heap[g]? = some (.stringIter (ofL xs) pos) →
      ∃ e a' w', post w0 n D Q e a' w' ∧ Arrives P (lone (b.at ⟨tm, D⟩ (.code c :: .inLoop c :: k)) cs W) b k cs e a' w' := by
    intro m
    induction m with
    | zero =>
      intro pos tm W hm hr hk hi hh
      simp only [Nat.zero_add] at hm
      subst hm
      obtain ⟨e, a₁, w₁, ⟨s', h', hk', hi', hd, hne, hq⟩, harr⟩ := last hr D tm W hk hh b (.inLoop c :: k) cs
      have hp : post w0 n D Q e a₁ w₁ := ⟨s', h, hk', hi.step hi'.below, hd, hq⟩
      cases e with
      | normal => exact absurd rfl hne
      | exit id => exact ⟨_, _, _, hp, (.pass (x := .inLoop c) rfl (fun _ _ => .inl (by simp)) harr)⟩
      | goto l => exact ⟨_, _, _, hp, (.pass (x := .inLoop c) rfl (fun _ _ => .inl (by simp)) harr)⟩
      | ret => exact ⟨_, _, _, hp, (.pass (x := .inLoop c) rfl (fun _ _ => .inl (by simp)) harr)⟩
      | panic ch => exact ⟨_, _, _, hp, (.pass (x := .inLoop c) rfl (fun _ _ => .inl (by simp)) harr)⟩
      | outgrown => exact ⟨_, _, _, hp, (.pass (x := .inLoop c) rfl (fun _ _ => .inl (by simp)) harr)⟩
    | succ m ih =>
      intro pos tm W hm hr hk hi hh
      obtain ⟨e, a₁, w₁, ⟨s', h', hk', hi', hd, hq⟩, harr⟩ := round pos (by omega) hr D tm W hk hh b (.inLoop c :: k) cs
      have hi1 : Inv w0 h w₁ := (hi.iterAt hh hg (pos + 1)).step hi'.below
      rcases hq with ⟨rfl, hsub, hr'⟩ | ⟨hne, hq⟩
      · obtain ⟨tm', ds⟩ := a₁
        cases hd
        have hh1 : w₁.heap[g]? = some (.stringIter (ofL xs) (pos + 1)) := by
          have h2 := iterAt_heap W g (ofL xs) pos (pos + 1) hh
          exact (hi'.below.block g (Array.getElem?_eq_some_iff.1 h2).1).trans h2
        obtain ⟨e₂, a₂, w₂, hq₂, harr₂⟩ := ih (pos + 1) tm' w₁ (by omega) hr' (hk'.sub hsub) hi1 hh1
        exact ⟨_, _, _, hq₂, .of_steps (Steps.trans harr (.one step_inLoop)) harr₂⟩
      · have hp : post w0 n D Q e a₁ w₁ := ⟨s', h, hk', hi1, hd, hq⟩
        cases e with
        | normal => exact absurd rfl hne
        | exit id => exact ⟨_, _, _, hp, (.pass (x := .inLoop c) rfl (fun _ _ => .inl (by simp)) harr)⟩
        | goto l => exact ⟨_, _, _, hp, (.pass (x := .inLoop c) rfl (fun _ _ => .inl (by simp)) harr)⟩
        | ret => exact ⟨_, _, _, hp, (.pass (x := .inLoop c) rfl (fun _ _ => .inl (by simp)) harr)⟩
        | panic ch => exact ⟨_, _, _, hp, (.pass (x := .inLoop c) rfl (fun _ _ => .inl (by simp)) harr)⟩
        | outgrown => exact ⟨_, _, _, hp, (.pass (x := .inLoop c) rfl (fun _ _ => .inl (by simp)) harr)⟩
  obtain ⟨e, a', w', hq, harr⟩ := key xs.length 0 tm W (by omega) hR hk hi hh
  exact ⟨e, a', w', hq, .of_steps (.one step_loop) harr⟩
theorem bool4_all : ([4] : List Nat).all (fun t => match Tryz.prog.underlying t with | some .bool => true | _ => false) = true := by decide +kernel
theorem bool4 : Tryz.prog.underlying 4 = some .bool := by
  have := List.all_eq_true.1 bool4_all 4 (by simp)
  split at this
  · rename_i hu; exact hu
  · cases this
theorem y_eqB {w0 : World} {n : Nat} {s : Sl} {h : List Bx} {dd : Option Tmp} {x y : Operand} {yt ty : TypeId} {g : Option (Option Tmp × Bool)} {a b : Bool} (hx : ev s x = some (.bool a)) (hy : ev s y = some (.bool b)) (hw : Wan s g true) :
    Y Tryz.prog w0 n s h ⟨dd, .binOp .eql 4 x y yt, ty, g⟩ (.bool (a == b)) := y_yield hw (fun tm W hk _ => by
  simp only [execOp, CO.oper, ev_ok (ds := []) hk hx, ev_ok (ds := []) hk hy]
  simp [eqGuard, binOp, Sem.run_bind, run_equal_bool W 4 a b bool4])
theorem wpl_val {P : Program} {ops : Array Oper} {Q : Exit → Act → World → Prop} {o : Oper} {rest : List Oper} {a : Act} {W W' : World} {v : Value} (hw : Region.wanted o (yielded ops a.tmps) = true) (he : (execOp a.eval o).run P W = .ok (.value v) W')
    (H : wpList P ops Q rest (a.put o.dst v) W') : wpList P ops Q (o :: rest) a W := by
  unfold wpList
  rw [if_pos hw]
  left
  unfold Oper.wp
  rw [he]; exact H
theorem blk_post {P : Program} {w0 : World} {n : Nat} {D : List Deferred} {Q : AQ} {id : Nat} {c : Code} {a : Act} {W : World} (H : c.wp P (post w0 n D (aBlock id Q)) a W) : (Code.block id c).wp P (post w0 n D Q) a W :=
  wp_block (wp_mono H fun e a W' hp => by
    obtain ⟨s', h', hk', hi', hd, hq⟩ := hp
    cases e with
    | exit id' =>
      simp only [Exit.inBlock, aBlock] at hq ⊢
      split
      · rename_i e; rw [if_pos e] at hq; exact ⟨s', h', hk', hi', hd, hq⟩
      · rename_i e; rw [if_neg e] at hq; exact ⟨s', h', hk', hi', hd, hq⟩
    | _ => exact ⟨s', h', hk', hi', hd, hq⟩)
theorem idxF_drop (p : Nat → Bool) (t : Bool) {xs : List UInt8} {pos : Nat} (h : pos < xs.length) : idxF p t pos (xs.drop pos) = if (p (xs[pos]).toNat == t) = true then (pos : Int) else idxF p t (pos + 1) (xs.drop (pos + 1)) := by
  rw [List.drop_eq_getElem_cons h]; rfl
set_option maxHeartbeats 4000000 in
set_option maxRecDepth 100000 in
theorem indexFunc (w0 : World) (h : List Bx) (p : Nat → Bool) (gf : FuncId) (cap : Array Value) (xs : List UInt8) (tr : Bool) (hx : ∀ b ∈ xs, b.toNat < 128)
    (hp : ∀ b : Nat, b < 128 → ∀ (w0 : World) (h : List Bx), Ct Tryz.prog gf (#[.int .i32 b] ++ cap) w0 h (fun v h' => v = .bool (p b) ∧ h' = h)) :
    Ct Tryz.prog 271 #[.string (ofL xs), .func (.func gf) #[] cap, .bool tr] w0 h (fun v h' => v = .int .i64 (idxF p tr 0 xs) ∧ h' = h) := by
  (refine aw_ct (vs := [.string (ofL xs), .func (.func gf) #[] cap, .bool tr]) Tryz.func271 rfl Tryz.ntmps271 rfl (by intro W; go_simp) ?_; simp only [argSl])
  repeat' (first | refine ac_nil ?_ | (refine gLd ?_; first | refine z_load ?_ | refine z_loadA ?_ | refine z_loadO ?_ | refine z_loadOA ?_ | refine zl ?_ | refine zv ?_) | (refine gFd ?_; first | refine z_fieldO ?_ | refine z_field ?_ | refine zv ?_) | (refine gMv ?_; refine z_move ?_) | (refine gAs ?_; refine z_assign ?_) | (refine gBx ?_; refine zb (H := fun g => ?_)) | (refine gSt ?_; refine zo ?_) | (refine gBn ?_; first | refine z_add ?_ | refine z_sub ?_ | refine z_mul ?_ | refine z_bin ?_ | refine z_quoN ?_ | refine z_remN ?_ | refine z_quo ?_ | refine z_rem ?_ | refine z_shr ?_ | refine z_streq ?_ | refine z_strne ?_ | refine z_cat ?_ | refine zl ?_ | refine zv ?_) | (refine gPk ?_; first | refine z_pickT ?_ | refine z_pickF ?_ | refine z_pick ?_ | refine zv ?_) | (refine gEx ?_; refine z_extract ?_) | (refine gBu ?_; first | refine z_len ?_ | refine z_lenL ?_ | refine z_lenS ?_ | refine z_max ?_ | refine z_min ?_ | refine zl ?_) | (refine gIx ?_; first | refine z_indexO ?_ | refine z_index ?_) | (refine gUn ?_; first | refine z_not ?_ | refine z_neg ?_ | refine zv ?_) | (refine gCo ?_; first | refine z_conv ?_ | refine z_convW ?_ | refine zt (H := fun A c hb hO hS => ?_) | refine zl ?_ | refine zv ?_) | (refine gBd ?_; first | refine z_build ?_ | refine zv ?_) | (refine gAl ?_; first | refine za (H := fun g => ?_) | refine zn (H := fun g => ?_)) | (refine gBs ?_; refine zs (H := fun g => ?_)) | (refine gGd ?_; first | refine zgo ?_ | refine zof ?_ | refine zof0 ?_ | refine ac_guard rfl (fun hb => ?_) (fun hb => ?_)) | refine z_stridx ?_ | refine z_slLo ?_ | refine z_slHi ?_ | refine z_slLH ?_ | refine zm (H := fun g => ?_) | (refine gNc ?_; first | refine zl ?_ | refine zv ?_) | ((fail_if_success (show AW _ _ _ (Code.seq (Code.region 1 _ _) _) _ _ _)); refine aw_seq_k ?_; intro K hK) | (refine gRg ?_; refine zr ?_) | (refine gCd ?_; first | refine z1 ?_ | refine z0 ?_ | refine aw_cond rfl (fun hb => ?_) (fun hb => ?_)) | refine aw_ret ?_ | refine aw_skip ?_ | refine aw_block ?_ | refine aw_exit ?_ | (refine gRd ?_; refine zd ?_) | refine zk ?_ | ((fail_if_success (refine ad_known rfl rfl rfl (by first | rfl | assumption) ?_)); refine ad_guard rfl rfl rfl (fun hb => ?_) (fun hb => ?_)) | (simp only [aThen, aBlock, ↓reduceIte, Nat.reduceEqDiff]; first | apply_assumption -exfalso | (refine sub_and zl_ ?_)) | refine ad_pass rfl ?_ | refine ad_done (by decide +kernel) ?_ | refine ad_any (by decide +kernel) ?_ | exact fun _ h => absurd h List.not_mem_nil | refine List.forall_mem_cons.2 ⟨?_, ?_⟩ | (intro hr; exact absurd hr (by decide +kernel)) | (intro hr; refine zj ?_) | (simp only [aThen, aBlock, ↓reduceIte, Nat.reduceEqDiff]))
  intro D tm W hk hi
  refine wp_seq (wp_region_list (wpl_val rfl (v := .string (ofL xs)) (W' := W) ?_ (wpl_val rfl (v := .pointer (some ⟨W.heap.size, 0, none⟩)) (W' := W.iter (ofL xs) 0) ?_ (wpList_nil ?_))))
  · rw [ev_defers]
    simp only [execOp, ev_ok (ds := []) hk (o := .tmp 0) rfl]
    rfl
  · have e9 : Act.eval ((⟨tm, D⟩ : Act).put (some 9) (.string (ofL xs))) (.tmp 9) = .string (ofL xs) := by
      rw [put_eq, ev_defers]
      exact ev_ok (hk.put (d := 9) rfl) rfl
    simp only [execOp, e9, Sem.run_bind, run_range_string W 9 (ofL xs) (str_ty rfl), Result.andThen_ok]
    rfl
  · show (Code.block 0 _).wp Tryz.prog _ _ _
    rw [put_eq, put_eq]
    refine blk_post ?_
    have hk2 := (hk.put (d := 9) (v := .string (ofL xs)) rfl).put (d := 10) (v := .pointer (some ⟨W.heap.size, 0, none⟩)) rfl
    refine iter_loop (g := W.heap.size) (xs := xs) hi.below.size (fun pos => idxF p tr 0 xs = idxF p tr pos (xs.drop pos)) ?_ ?_ rfl D _ _ hk2 (hi.step ((Below.refl _ _).alloc (Nat.le_refl _) _)) (World.iter_heap W (ofL xs) 0)
    · intro pos hlt hr D tm W1 hk hh
      have hsz : pos < (ofL xs).size := by rw [ofL_size]; exact hlt
      have hb : (ofL xs)[pos]'hsz = xs[pos] := by
        have h1 := ofL_get xs pos
        rw [List.getElem?_eq_getElem hlt] at h1
        have h2 : (ofL xs)[pos]? = some ((ofL xs)[pos]'hsz) := by simp [hsz]
        rw [h2, Option.some.injEq] at h1
        exact h1
      have hlt128 : (xs[pos]).toNat < 128 := hx _ (List.getElem_mem hlt)
      have hp' : ∀ (w0 : World) (h : List Bx), Ct Tryz.prog gf ([Value.int .i32 ((xs[pos]).toNat : Int)] ++ cap.toList).toArray w0 h (fun v h' => v = .bool (p (xs[pos]).toNat) ∧ h' = h) := fun w0 h => by
        have := hp _ hlt128 w0 h
        rwa [show (#[Value.int .i32 ((xs[pos]).toNat : Int)] ++ cap) = ([Value.int .i32 ((xs[pos]).toNat : Int)] ++ cap.toList).toArray from by apply Array.toList_inj.1; simp] at this
      refine seq_post (wp_region_list (wpl_val rfl (v := .tuple #[.bool true, .int .i64 pos, .int .i32 ((xs[pos]).toNat : Int)]) (W' := W1.iterAt W.heap.size (ofL xs) (pos + 1)) ?_ ?_))
      · rw [ev_defers]
        simp only [execOp, ev_ok (ds := []) hk (o := .tmp 10) rfl, Sem.run_bind, run_next_ascii_at W1 W.heap.size (ofL xs) pos _ hh hsz (by rw [hb]; exact hlt128), Result.andThen_ok, hb]
        rfl
      rw [put_eq]
      generalize W1.iterAt W.heap.size (ofL xs) (pos + 1) = w1
      refine AC.sound _ _ [] ?_ D _ w1 (hk.put (d := 11) rfl) (Inv.start w1)
      simp only [told, List.map_cons, List.map_nil, List.getElem?_toArray, List.getElem?_cons_zero, List.getElem?_cons_succ, Option.bind_some]
      repeat' (first | ((with_reducible apply ac_y); (focus ((with_reducible apply y_callv); (focus exact rfl); (focus exact rfl); (focus exact rfl); (focus exact wan_free); (focus (intro h' hs; exact hp' w1 h')))); (focus exact rfl)) | ((with_reducible apply ac_y); (focus ((with_reducible apply y_eqB); (focus exact rfl); (focus exact rfl); (focus exact wan_free))); (focus exact rfl)) | refine ac_nil ?_ | (refine gLd ?_; first | refine z_load ?_ | refine z_loadA ?_ | refine z_loadO ?_ | refine z_loadOA ?_ | refine zl ?_ | refine zv ?_) | (refine gFd ?_; first | refine z_fieldO ?_ | refine z_field ?_ | refine zv ?_) | (refine gMv ?_; refine z_move ?_) | (refine gAs ?_; refine z_assign ?_) | (refine gBx ?_; refine zb (H := fun g => ?_)) | (refine gSt ?_; refine zo ?_) | (refine gBn ?_; first | refine z_add ?_ | refine z_sub ?_ | refine z_mul ?_ | refine z_bin ?_ | refine z_quoN ?_ | refine z_remN ?_ | refine z_quo ?_ | refine z_rem ?_ | refine z_shr ?_ | refine z_streq ?_ | refine z_strne ?_ | refine z_cat ?_ | refine zl ?_ | refine zv ?_) | (refine gPk ?_; first | refine z_pickT ?_ | refine z_pickF ?_ | refine z_pick ?_ | refine zv ?_) | (refine gEx ?_; refine z_extract ?_) | (refine gBu ?_; first | refine z_len ?_ | refine z_lenL ?_ | refine z_lenS ?_ | refine z_max ?_ | refine z_min ?_ | refine zl ?_) | (refine gIx ?_; first | refine z_indexO ?_ | refine z_index ?_) | (refine gUn ?_; first | refine z_not ?_ | refine z_neg ?_ | refine zv ?_) | (refine gCo ?_; first | refine z_conv ?_ | refine z_convW ?_ | refine zt (H := fun A c hb hO hS => ?_) | refine zl ?_ | refine zv ?_) | (refine gBd ?_; first | refine z_build ?_ | refine zv ?_) | (refine gAl ?_; first | refine za (H := fun g => ?_) | refine zn (H := fun g => ?_)) | (refine gBs ?_; refine zs (H := fun g => ?_)) | (refine gGd ?_; first | refine zgo ?_ | refine zof ?_ | refine zof0 ?_ | refine ac_guard rfl (fun hb => ?_) (fun hb => ?_)) | refine z_stridx ?_ | refine z_slLo ?_ | refine z_slHi ?_ | refine z_slLH ?_ | refine zm (H := fun g => ?_) | (refine gNc ?_; first | refine zl ?_ | refine zv ?_) | (refine aw_seq_k ?_; intro K hK) | (refine gRg ?_; refine zr ?_) | (refine gCd ?_; first | refine z1 ?_ | refine z0 ?_ | refine aw_cond rfl (fun hb => ?_) (fun hb => ?_)) | refine aw_ret ?_ | refine aw_skip ?_ | refine aw_block ?_ | refine aw_exit ?_ | (refine gRd ?_; refine zd ?_) | refine zk ?_ | ((fail_if_success (refine ad_known rfl rfl rfl (by first | rfl | assumption) ?_)); refine ad_guard rfl rfl rfl (fun hb => ?_) (fun hb => ?_)) | (simp only [aThen, aBlock, ↓reduceIte, Nat.reduceEqDiff]; first | apply_assumption -exfalso | (refine sub_and zl_ ?_)) | refine ad_pass rfl ?_ | refine ad_done (by decide +kernel) ?_ | refine ad_any (by decide +kernel) ?_ | exact fun _ h => absurd h List.not_mem_nil | refine List.forall_mem_cons.2 ⟨?_, ?_⟩ | (intro hr; exact absurd hr (by decide +kernel)) | (intro hr; refine zj ?_) | (simp only [aThen, aBlock, ↓reduceIte, Nat.reduceEqDiff]))
      · refine .inr ⟨by simp, ?_⟩
        have hm : (p (xs[pos]).toNat == tr) = true := by assumption
        have hv : idxF p tr 0 xs = (pos : Int) := by rw [hr, idxF_drop p tr hlt, if_pos hm]
        rw [hv]
        show Ends Tryz.prog w0 21 Tryz.f271 _ .ret _ h
        (first | (apply ends1 (h' := h); (focus (first | exact .inl rfl | exact .inr rfl)); (focus exact Tryz.results271); (focus (first | (apply RV.tmp; exact rfl) | (apply RV.cell; (focus exact rfl); (focus (repeat (first | exact List.Mem.head _ | apply List.Mem.tail | apply List.mem_append_right))); (focus exact rfl); (focus exact rfl); (focus exact rfl)) | (apply RV.cellA; (focus exact rfl); (focus (repeat (first | exact List.Mem.head _ | apply List.Mem.tail | apply List.mem_append_right))); (focus exact rfl); (focus exact rfl); (focus exact rfl)))); (focus (repeat (first | exact List.Sublist.refl _ | exact List.sublist_append_left _ _ | apply List.Sublist.cons | apply sub_app)))) | (apply endsN (h' := h) (rs := Tryz.f271.results.toList); (focus (first | exact .inl rfl | exact .inr rfl)); (focus exact rfl); (focus (rw [Tryz.results271]; repeat (first | exact RVs.nil | (apply RVs.cons; (focus (first | (apply RV.tmp; exact rfl) | (apply RV.cell; (focus exact rfl); (focus (repeat (first | exact List.Mem.head _ | apply List.Mem.tail | apply List.mem_append_right))); (focus exact rfl); (focus exact rfl); (focus exact rfl)) | (apply RV.cellA; (focus exact rfl); (focus (repeat (first | exact List.Mem.head _ | apply List.Mem.tail | apply List.mem_append_right))); (focus exact rfl); (focus exact rfl); (focus exact rfl)))))))); (focus exact rfl); (focus (repeat (first | exact List.Sublist.refl _ | exact List.sublist_append_left _ _ | apply List.Sublist.cons | apply sub_app)))))
        simp
      · refine .inl ⟨trivial, by (repeat (first | exact Sub.nil | ((apply Sub.cons'); (focus exact rfl); (focus (first | rfl | (congr 1; omega) | (simp; done)))))), ?_⟩
        have hm : (p (xs[pos]).toNat == tr) = false := by assumption
        rw [hr, idxF_drop p tr hlt, hm]
        rfl
    · intro hr D tm W1 hk hh
      have hsz : ¬ xs.length < (ofL xs).size := by rw [ofL_size]; exact Nat.lt_irrefl _
      refine seq_post (wp_region_list (wpl_val rfl (v := .tuple #[.bool false]) (W' := W1) ?_ ?_))
      · rw [ev_defers]
        simp only [execOp, ev_ok (ds := []) hk (o := .tmp 10) rfl, Sem.run_bind, run_next_end_at W1 W.heap.size (ofL xs) xs.length _ hh hsz, Result.andThen_ok]
        rfl
      rw [put_eq]
      refine AC.sound _ _ [] ?_ D _ W1 (hk.put (d := 11) rfl) (Inv.start W1)
      simp only [told, List.map_cons, List.map_nil, List.getElem?_toArray, List.getElem?_cons_zero, List.getElem?_cons_succ, Option.bind_some]
      clear hsz
      repeat' (first | refine ac_nil ?_ | (refine gLd ?_; first | refine z_load ?_ | refine z_loadA ?_ | refine z_loadO ?_ | refine z_loadOA ?_ | refine zl ?_ | refine zv ?_) | (refine gFd ?_; first | refine z_fieldO ?_ | refine z_field ?_ | refine zv ?_) | (refine gMv ?_; refine z_move ?_) | (refine gAs ?_; refine z_assign ?_) | (refine gBx ?_; refine zb (H := fun g => ?_)) | (refine gSt ?_; refine zo ?_) | (refine gBn ?_; first | refine z_add ?_ | refine z_sub ?_ | refine z_mul ?_ | refine z_bin ?_ | refine z_quoN ?_ | refine z_remN ?_ | refine z_quo ?_ | refine z_rem ?_ | refine z_shr ?_ | refine z_streq ?_ | refine z_strne ?_ | refine z_cat ?_ | refine zl ?_ | refine zv ?_) | (refine gPk ?_; first | refine z_pickT ?_ | refine z_pickF ?_ | refine z_pick ?_ | refine zv ?_) | (refine gEx ?_; refine z_extract ?_) | (refine gBu ?_; first | refine z_len ?_ | refine z_lenL ?_ | refine z_lenS ?_ | refine z_max ?_ | refine z_min ?_ | refine zl ?_) | (refine gIx ?_; first | refine z_indexO ?_ | refine z_index ?_) | (refine gUn ?_; first | refine z_not ?_ | refine z_neg ?_ | refine zv ?_) | (refine gCo ?_; first | refine z_conv ?_ | refine z_convW ?_ | refine zt (H := fun A c hb hO hS => ?_) | refine zl ?_ | refine zv ?_) | (refine gBd ?_; first | refine z_build ?_ | refine zv ?_) | (refine gAl ?_; first | refine za (H := fun g => ?_) | refine zn (H := fun g => ?_)) | (refine gBs ?_; refine zs (H := fun g => ?_)) | (refine gGd ?_; first | refine zgo ?_ | refine zof ?_ | refine zof0 ?_ | refine ac_guard rfl (fun hb => ?_) (fun hb => ?_)) | refine z_stridx ?_ | refine z_slLo ?_ | refine z_slHi ?_ | refine z_slLH ?_ | refine zm (H := fun g => ?_) | (refine gNc ?_; first | refine zl ?_ | refine zv ?_) | (refine aw_seq_k ?_; intro K hK) | (refine gRg ?_; refine zr ?_) | (refine gCd ?_; first | refine z1 ?_ | refine z0 ?_ | refine aw_cond rfl (fun hb => ?_) (fun hb => ?_)) | refine aw_ret ?_ | refine aw_skip ?_ | refine aw_block ?_ | refine aw_exit ?_ | (refine gRd ?_; refine zd ?_) | refine zk ?_ | ((fail_if_success (refine ad_known rfl rfl rfl (by first | rfl | assumption) ?_)); refine ad_guard rfl rfl rfl (fun hb => ?_) (fun hb => ?_)) | (simp only [aThen, aBlock, ↓reduceIte, Nat.reduceEqDiff]; first | apply_assumption -exfalso | (refine sub_and zl_ ?_)) | refine ad_pass rfl ?_ | refine ad_done (by decide +kernel) ?_ | refine ad_any (by decide +kernel) ?_ | exact fun _ h => absurd h List.not_mem_nil | refine List.forall_mem_cons.2 ⟨?_, ?_⟩ | (intro hr; exact absurd hr (by decide +kernel)) | (intro hr; refine zj ?_) | (simp only [aThen, aBlock, ↓reduceIte, Nat.reduceEqDiff]))
      have hv : idxF p tr 0 xs = -1 := by rw [hr, List.drop_eq_nil_of_le (Nat.le_refl _)]; rfl
      refine ⟨by simp, ?_⟩
      apply_assumption
      repeat' (first | refine ac_nil ?_ | (refine gLd ?_; first | refine z_load ?_ | refine z_loadA ?_ | refine z_loadO ?_ | refine z_loadOA ?_ | refine zl ?_ | refine zv ?_) | (refine gFd ?_; first | refine z_fieldO ?_ | refine z_field ?_ | refine zv ?_) | (refine gMv ?_; refine z_move ?_) | (refine gAs ?_; refine z_assign ?_) | (refine gBx ?_; refine zb (H := fun g => ?_)) | (refine gSt ?_; refine zo ?_) | (refine gBn ?_; first | refine z_add ?_ | refine z_sub ?_ | refine z_mul ?_ | refine z_bin ?_ | refine z_quoN ?_ | refine z_remN ?_ | refine z_quo ?_ | refine z_rem ?_ | refine z_shr ?_ | refine z_streq ?_ | refine z_strne ?_ | refine z_cat ?_ | refine zl ?_ | refine zv ?_) | (refine gPk ?_; first | refine z_pickT ?_ | refine z_pickF ?_ | refine z_pick ?_ | refine zv ?_) | (refine gEx ?_; refine z_extract ?_) | (refine gBu ?_; first | refine z_len ?_ | refine z_lenL ?_ | refine z_lenS ?_ | refine z_max ?_ | refine z_min ?_ | refine zl ?_) | (refine gIx ?_; first | refine z_indexO ?_ | refine z_index ?_) | (refine gUn ?_; first | refine z_not ?_ | refine z_neg ?_ | refine zv ?_) | (refine gCo ?_; first | refine z_conv ?_ | refine z_convW ?_ | refine zt (H := fun A c hb hO hS => ?_) | refine zl ?_ | refine zv ?_) | (refine gBd ?_; first | refine z_build ?_ | refine zv ?_) | (refine gAl ?_; first | refine za (H := fun g => ?_) | refine zn (H := fun g => ?_)) | (refine gBs ?_; refine zs (H := fun g => ?_)) | (refine gGd ?_; first | refine zgo ?_ | refine zof ?_ | refine zof0 ?_ | refine ac_guard rfl (fun hb => ?_) (fun hb => ?_)) | refine z_stridx ?_ | refine z_slLo ?_ | refine z_slHi ?_ | refine z_slLH ?_ | refine zm (H := fun g => ?_) | (refine gNc ?_; first | refine zl ?_ | refine zv ?_) | (refine aw_seq_k ?_; intro K hK) | (refine gRg ?_; refine zr ?_) | (refine gCd ?_; first | refine z1 ?_ | refine z0 ?_ | refine aw_cond rfl (fun hb => ?_) (fun hb => ?_)) | refine aw_ret ?_ | refine aw_skip ?_ | refine aw_block ?_ | refine aw_exit ?_ | (refine gRd ?_; refine zd ?_) | refine zk ?_ | ((fail_if_success (refine ad_known rfl rfl rfl (by first | rfl | assumption) ?_)); refine ad_guard rfl rfl rfl (fun hb => ?_) (fun hb => ?_)) | (simp only [aThen, aBlock, ↓reduceIte, Nat.reduceEqDiff]; first | apply_assumption -exfalso | (refine sub_and zl_ ?_)) | refine ad_pass rfl ?_ | refine ad_done (by decide +kernel) ?_ | refine ad_any (by decide +kernel) ?_ | exact fun _ h => absurd h List.not_mem_nil | refine List.forall_mem_cons.2 ⟨?_, ?_⟩ | (intro hr; exact absurd hr (by decide +kernel)) | (intro hr; refine zj ?_) | (simp only [aThen, aBlock, ↓reduceIte, Nat.reduceEqDiff]))
      all_goals (first | (apply ends1 (h' := h); (focus (first | exact .inl rfl | exact .inr rfl)); (focus exact Tryz.results271); (focus (first | (apply RV.tmp; exact rfl) | (apply RV.cell; (focus exact rfl); (focus (repeat (first | exact List.Mem.head _ | apply List.Mem.tail | apply List.mem_append_right))); (focus exact rfl); (focus exact rfl); (focus exact rfl)) | (apply RV.cellA; (focus exact rfl); (focus (repeat (first | exact List.Mem.head _ | apply List.Mem.tail | apply List.mem_append_right))); (focus exact rfl); (focus exact rfl); (focus exact rfl)))); (focus (repeat (first | exact List.Sublist.refl _ | exact List.sublist_append_left _ _ | apply List.Sublist.cons | apply sub_app)))) | (apply endsN (h' := h) (rs := Tryz.f271.results.toList); (focus (first | exact .inl rfl | exact .inr rfl)); (focus exact rfl); (focus (rw [Tryz.results271]; repeat (first | exact RVs.nil | (apply RVs.cons; (focus (first | (apply RV.tmp; exact rfl) | (apply RV.cell; (focus exact rfl); (focus (repeat (first | exact List.Mem.head _ | apply List.Mem.tail | apply List.mem_append_right))); (focus exact rfl); (focus exact rfl); (focus exact rfl)) | (apply RV.cellA; (focus exact rfl); (focus (repeat (first | exact List.Mem.head _ | apply List.Mem.tail | apply List.mem_append_right))); (focus exact rfl); (focus exact rfl); (focus exact rfl)))))))); (focus exact rfl); (focus (repeat (first | exact List.Sublist.refl _ | exact List.sublist_append_left _ _ | apply List.Sublist.cons | apply sub_app)))))
      all_goals simp [hv]
end Go.Proofs.YtpmjbobgglgnaaaGreatDoor
