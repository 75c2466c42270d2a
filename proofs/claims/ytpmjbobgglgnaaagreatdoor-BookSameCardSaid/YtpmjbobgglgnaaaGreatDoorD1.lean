/- A function with a call that is deferred, which does nothing at the end. -/
import Derived.Test.YtpmjbobgglgnaaaGreatDoorE1
import Derived.Defers
namespace Go.Proofs.YtpmjbobgglgnaaaGreatDoor
open Go.RowKit
set_option linter.unusedVariables false
/-! ### A call that is deferred, and does nothing at the end -/
def DOk (P : Program) (fd : FuncId) : Prop := ∀ (args : Array Value) (W : World), args.size ≤ 16 → (callFunc fd args).run P W = .ok (.enter fd args) W ∧
  CallsD P fd args .returning W (fun e u' W' => (∃ v, e = .returned v) ∧ u' = .returning ∧ Below W.heap.size W W')
theorem wp_then {P : Program} {w0 : World} {n : Nat} {x y : Code} {Qb : Exit → Act → World → Prop} {K : Sl → List Bx → Prop} {s : Sl} {h : List Bx} (H : AW P w0 n x (fun e s h => e = .normal ∧ K s h) s h)
    (Hy : ∀ s h, K s h → ∀ tm W, Knows n s tm → Inv w0 h W → y.wp P Qb ⟨tm, []⟩ W) : ∀ tm W, Knows n s tm → Inv w0 h W → (Code.seq x y).wp P Qb ⟨tm, []⟩ W := fun tm W hk hi =>
  wp_seq (wp_mono (H [] tm W hk hi) fun e a W' hp => by
    obtain ⟨s', h', hk', hi', hd, rfl, hq⟩ := hp
    obtain ⟨tm', ds⟩ := a
    cases hd
    exact Hy s' h' hq tm' W' hk' hi')
theorem wp_exits2 {P : Program} {o : Oper} {a : Act} {w : World} {K : Act → World → Prop} {Q Q2 : Exit → Act → World → Prop} (h1 : ∀ c a w, Q (.panic c) a w → Q2 (.panic c) a w) (h2 : LetsOut Q → LetsOut Q2) (H : o.wp P a w K Q) : o.wp P a w K Q2 := by
  unfold Oper.wp at H ⊢
  revert H
  cases (execOp a.eval o).run P w with
  | halt x w' =>
    cases x with
    | panic u => exact h1 _ _ _
    | _ => exact id
  | ok m w' =>
    cases m with
    | enter f args =>
      refine fun H => Calls.mono H fun e w'' he => ?_
      cases e with
      | returned u => exact he
      | panicked c => exact h1 _ _ _ he
      | outgrown => exact h2 he
    | _ => exact id
theorem ct_defer {P : Program} {w0 : World} {n : Nat} {f : FuncId} {fn : Func} {a b x y : Code} {id : Nat} {ops : Array Oper} {o1 o2 : Oper} {z : Operand} {tys : Array TypeId} {vs : List Value} {h : List Bx} {Φ : Value → List Bx → Prop}
    (hf : P.funcs[f]? = some fn) (hb : fn.body = some (.seq a (.seq b (.seq x (.seq (.region id ops false) y))))) (hops : ops.toList = [o1, o2]) (ho2 : o2.op = .defer ⟨.value z, #[], tys⟩) (hog : o2.guard = none) (hod : o2.dst = none)
    (hn : fn.ntmps = n) (hl : Nat.ble vs.length n = true) (hcall : ∀ W, (callFunc f vs.toArray).run P W = .ok (.enter f vs.toArray) W)
    (H : AW P w0 n a (fun e s h => e = .normal ∧ AW P w0 n b (fun e s h => e = .normal ∧ AW P w0 n x (fun e s h => e = .normal ∧ AC P w0 n (fun e s h => e = .normal ∧ ∃ fd fa fc, ev s z = some (.func (.func fd) fa fc) ∧ fa.size + fc.size ≤ 16 ∧ DOk P fd ∧
      AW P w0 n y (fun e s h => e = .ret ∧ Ends P w0 n fn Φ .ret s h) s h) [told ops o1] s h) s h) s h) (argSl 0 vs) h) : Ct P f vs.toArray w0 h Φ := by
  refine ⟨hcall, fun W hi => calls_of_wp_defers hf hb ?_⟩
  refine wp_then H (fun s h H => wp_then H (fun s h H => wp_then H (fun s h H => ?_))) _ W ?_ hi
  · intro tm W hk hi
    refine wp_seq (wp_region_list ?_)
    rw [hops]
    refine wpList_step fun K hK => ?_
    rw [wanted_told]
    have last : ∀ tm s h W, Knows n s tm → Inv w0 h W → (∃ fd fa fc, ev s z = some (.func (.func fd) fa fc) ∧ fa.size + fc.size ≤ 16 ∧ DOk P fd ∧ AW P w0 n y (fun e s h => e = .ret ∧ Ends P w0 n fn Φ .ret s h) s h) → K ⟨tm, []⟩ W := by
      intro tm s h W hk hi ⟨fd, fa, fc, hz, hsz, hd, H⟩
      refine hK _ _ (wpList_step fun K2 hK2 => ?_)
      have hw : Region.wanted o2 (yielded ops tm) = true := by unfold Region.wanted; rw [hog]
      rw [if_pos hw]
      have he : (execOp (Act.eval ⟨tm, []⟩) o2).run P W = .ok (.defer ⟨.fn (.func fd) fc, fa ++ #[]⟩) W := by
        unfold execOp
        rw [ho2]
        simp only [resolve, Array.map_empty, ev_ok (ds := []) hk hz, Deferred.ofValue, Sem.run_bind, Sem.run_pure, Result.andThen_ok]
      unfold Oper.wp
      rw [he, Oper.upon_defer, hod]
      refine hK2 _ _ (wpList_nil ?_)
      refine wp_mono (H [⟨.fn (.func fd) fc, fa ++ #[]⟩] tm W hk hi) fun e a W' hp => ?_
      obtain ⟨s', h', hk', hi', hds, rfl, hE⟩ := hp
      obtain ⟨tm', ds⟩ := a
      cases hds
      obtain ⟨_, v, h2, hr, hΦ⟩ := hE
      show Leaves P fn tm' _ [⟨.fn (.func fd) fc, fa ++ #[]⟩] .returning W'
      refine leaves_cons (f := fd) (args := fa ++ #[] ++ fc) (by simp) ?_ ?_
      · exact (hd _ W' (by simpa using hsz)).1
      · refine (hd _ W' (by simpa using hsz)).2.mono ?_
        rintro e u' W'' ⟨⟨v', rfl⟩, rfl, hbl⟩
        obtain ⟨r1, r2⟩ := hr tm' W'' hk' (hi'.step hbl)
        exact ⟨v, r1, v, h2, rfl, r2, hΦ⟩
    rcases H [] tm W hk hi with ⟨hw, s', hk', _, hq⟩ | ⟨hw, hwp⟩
    · rw [hw]
      simp only [Bool.false_eq_true, if_false]
      rw [put_eq]
      exact last _ s' h W hk' hi hq
    · rw [hw]
      simp only [if_true]
      have h2 : o1.wp P ⟨tm, []⟩ W (fun a W' => a.defers = [] ∧ ∃ s' h', Knows n s' a.tmps ∧ Inv w0 h' W' ∧ (Exit.normal = Exit.normal ∧ ∃ fd fa fc, ev s' z = some (.func (.func fd) fa fc) ∧ fa.size + fc.size ≤ 16 ∧ DOk P fd ∧ AW P w0 n y (fun e s h => e = .ret ∧ Ends P w0 n fn Φ .ret s h) s' h')) (post w0 n [] _) := hwp
      refine wp_exits2 ?_ ?_ (Oper.wp_mono (fun a W' hh => ?_) h2)
      · rintro c a w ⟨_, _, _, _, _, e, _⟩; cases e
      · rintro ⟨a, w, hq⟩; exact ⟨a, w, by obtain ⟨_, _, _, _, _, e, _⟩ := hq; cases e⟩
      · obtain ⟨hd, s', h', hk', hi', _, hq⟩ := hh
        obtain ⟨tm', ds⟩ := a
        cases hd
        exact last _ s' h' W' hk' hi' hq
  · have hl' : vs.length ≤ n := Nat.le_of_ble_eq_true hl
    refine ⟨by simp [hn]; omega, fun i v hv => ?_⟩
    have := lk_argSl vs 0 i v hv
    simp only [Nat.zero_le, Nat.sub_zero, true_and] at this
    obtain ⟨hlt, _⟩ := List.getElem?_eq_some_iff.1 this
    rw [Array.getElem?_append_left (by simpa using hlt)]; simpa using this
end Go.Proofs.YtpmjbobgglgnaaaGreatDoor
