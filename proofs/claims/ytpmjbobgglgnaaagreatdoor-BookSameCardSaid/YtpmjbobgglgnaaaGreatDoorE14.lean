/- Closed calls that the kernel carries out: from a run to a contract; the functions that are told by contracts. -/
import Derived.Test.YtpmjbobgglgnaaaGreatDoorD2
import Derived.Test.YtpmjbobgglgnaaaGreatDoorM3
namespace Go.Proofs.YtpmjbobgglgnaaaGreatDoor
noncomputable section
open Go.RowKit Go.Lib
set_option linter.unusedVariables false
set_option linter.unusedSimpArgs false
def isOkV (v : AV) : Option (AV × AH × Nat) → Bool
  | some (u, _, _) => eqAV u v
  | none => false
def runE (P : Program) (X : Nat → List AV → Option (AV × Nat)) (f : Nat) (args : List AV) : Option (AV × AH × Nat) :=
  callF P (evE P X) (evCode P (evE P X) (drE (evE P X)) 100000) f args [] 0
/-- A call that the kernel has carried out. -/
theorem ran {X : Nat → List AV → Option (AV × Nat)} {f : Nat} {args : List AV} {v : AV} (h : isOkV v (runE Tryz.prog X f args) = true) (hb : bdL 0 args = true) {w0 : World} (hW : Words w0) (hX : XOk Tryz.prog w0 X) :
    ∀ (ρ : Rho) (h : List Bx), Ct Tryz.prog f (shL ρ args).toArray w0 h (fun u h' => (∃ ρ', u = sh ρ' v) ∧ h' = h) := by
  intro ρ hf
  cases hr : runE Tryz.prog X f args with
  | none => rw [hr] at h; cases h
  | some r =>
    obtain ⟨u, H', nx'⟩ := r
    rw [hr] at h
    have hu : u = v := eqAV_ok _ _ h
    subst hu
    have hE := evE_ok hW hX dok
    obtain ⟨_, h2⟩ := evCall_ok enters hE (drE_ok mixed hE) 100000 f args [] 0 _ _ _ hr (fun k b hm => by cases hm) hb
    have h3 := h2 ρ hf (fun x h'' => (∃ ρ', x = sh ρ' u) ∧ hf.Sublist h'') (fun k b z hm => by cases hm) (fun ρ' _ _ => ⟨⟨ρ', rfl⟩, List.sublist_append_right _ _⟩)
    refine ⟨h3.1, fun W hi => (h3.2 W hi).mono ?_⟩
    rintro e W' ⟨x, h'', e1, e2, e3, e4⟩
    exact ⟨x, hf, e1, e2.sub e4, e3, rfl⟩
def isDigU (b : UInt8) : Bool := decide (48 ≤ b.toNat) && decide (b.toNat ≤ 57)
def isLetU (b : UInt8) : Bool := (decide (65 ≤ b.toNat) && decide (b.toNat ≤ 90)) || (decide (97 ≤ b.toNat) && decide (b.toNat ≤ 122))
def lenP (f : Nat) (b : UInt8) : Bool := bif Nat.beq f 276 then isDigU b else (isLetU b || isDigU b)
/-- lex.length counts the bytes that a function takes. -/
def LenOk (w0 : World) : Prop := ∀ (xs : List UInt8) (m f : Nat), f = 276 ∨ f = 317 → m ≤ xs.length → xs.length ≤ 1048576 → ∀ h : List Bx,
  Ct Tryz.prog 275 #[.string (ofL xs), .int .i64 (m : Int), .func (.func f) #[] #[]] w0 h (fun v h' => v = .int .i64 (((xs.drop m).takeWhile (lenP f)).length : Int) ∧ h' = h)
def X1 (f : Nat) (args : List AV) : Option (AV × Nat) := match f, args with
  | 275, [.str xs, .int .i64 (.ofNat m), .fn g [] []] => bif (Nat.beq g 276 || Nat.beq g 317) && Nat.ble m xs.length && Nat.ble xs.length 1048576 then some (.int .i64 (.ofNat ((xs.drop m).takeWhile (lenP g)).length), 0) else none
  | 271, [.str xs, .fn 221 [] [], .bool true] => bif xs.all (fun b => Nat.blt b.toNat 128) then some (.int .i64 (idxF (fun k => Nat.beq k 0) true 0 xs), 0) else none
  | _, _ => none
set_option maxHeartbeats 2000000 in
set_option maxRecDepth 100000 in
theorem pr221 (b : Nat) (w0 : World) (h : List Bx) : Ct Tryz.prog 221 (#[.int .i32 b] ++ #[]) w0 h (fun v h' => v = .bool (Nat.beq b 0) ∧ h' = h) := by
  show Ct Tryz.prog 221 #[.int .i32 b] w0 h (fun v h' => v = .bool (Nat.beq b 0) ∧ h' = h)
  (refine aw_ct (vs := [.int .i32 b]) Tryz.func221 rfl Tryz.ntmps221 rfl (by intro W; go_simp) ?_; simp only [argSl])
  repeat' (first | refine ac_nil ?_ | (refine gLd ?_; first | refine z_load ?_ | refine z_loadA ?_ | refine z_loadO ?_ | refine z_loadOA ?_ | refine zl ?_ | refine zv ?_) | (refine gFd ?_; first | refine z_fieldO ?_ | refine z_field ?_ | refine zv ?_) | (refine gMv ?_; refine z_move ?_) | (refine gAs ?_; refine z_assign ?_) | (refine gBx ?_; refine zb (H := fun g => ?_)) | (refine gSt ?_; refine zo ?_) | (refine gBn ?_; first | refine z_add ?_ | refine z_sub ?_ | refine z_mul ?_ | refine z_bin ?_ | refine z_quoN ?_ | refine z_remN ?_ | refine z_quo ?_ | refine z_rem ?_ | refine z_shr ?_ | refine z_streq ?_ | refine z_strne ?_ | refine z_cat ?_ | refine zl ?_ | refine zv ?_) | (refine gPk ?_; first | refine z_pickT ?_ | refine z_pickF ?_ | refine z_pick ?_ | refine zv ?_) | (refine gEx ?_; refine z_extract ?_) | (refine gBu ?_; first | refine z_len ?_ | refine z_lenL ?_ | refine z_lenS ?_ | refine z_max ?_ | refine z_min ?_ | refine zl ?_) | (refine gIx ?_; first | refine z_indexO ?_ | refine z_index ?_) | (refine gUn ?_; first | refine z_not ?_ | refine z_neg ?_ | refine zv ?_) | (refine gCo ?_; first | refine z_conv ?_ | refine z_convW ?_ | refine zt (H := fun A c hb hO hS => ?_) | refine zl ?_ | refine zv ?_) | (refine gBd ?_; first | refine z_build ?_ | refine zv ?_) | (refine gAl ?_; first | refine za (H := fun g => ?_) | refine zn (H := fun g => ?_)) | (refine gBs ?_; refine zs (H := fun g => ?_)) | (refine gGd ?_; first | refine zgo ?_ | refine zof ?_ | refine zof0 ?_ | refine ac_guard rfl (fun hb => ?_) (fun hb => ?_)) | refine z_stridx ?_ | refine z_slLo ?_ | refine z_slHi ?_ | refine z_slLH ?_ | refine zm (H := fun g => ?_) | (refine gNc ?_; first | refine zl ?_ | refine zv ?_) | (refine aw_seq_k ?_; intro K hK) | (refine gRg ?_; refine zr ?_) | (refine gCd ?_; first | refine z1 ?_ | refine z0 ?_ | refine aw_cond rfl (fun hb => ?_) (fun hb => ?_)) | refine aw_ret ?_ | refine aw_skip ?_ | refine aw_block ?_ | refine aw_exit ?_ | (refine gRd ?_; refine zd ?_) | refine zk ?_ | ((fail_if_success (refine ad_known rfl rfl rfl (by first | rfl | assumption) ?_)); refine ad_guard rfl rfl rfl (fun hb => ?_) (fun hb => ?_)) | (simp only [aThen, aBlock, ↓reduceIte, Nat.reduceEqDiff]; first | apply_assumption -exfalso | (refine sub_and zl_ ?_)) | refine ad_pass rfl ?_ | refine ad_done (by decide +kernel) ?_ | refine ad_any (by decide +kernel) ?_ | exact fun _ h => absurd h List.not_mem_nil | refine List.forall_mem_cons.2 ⟨?_, ?_⟩ | (intro hr; exact absurd hr (by decide +kernel)) | (intro hr; refine zj ?_) | (simp only [aThen, aBlock, ↓reduceIte, Nat.reduceEqDiff]))
  all_goals (first | (apply ends1 (h' := h); (focus (first | exact .inl rfl | exact .inr rfl)); (focus exact Tryz.results221); (focus (first | (apply RV.tmp; exact rfl) | (apply RV.cell; (focus exact rfl); (focus (repeat (first | exact List.Mem.head _ | apply List.Mem.tail | apply List.mem_append_right))); (focus exact rfl); (focus exact rfl); (focus exact rfl)) | (apply RV.cellA; (focus exact rfl); (focus (repeat (first | exact List.Mem.head _ | apply List.Mem.tail | apply List.mem_append_right))); (focus exact rfl); (focus exact rfl); (focus exact rfl)))); (focus (repeat (first | exact List.Sublist.refl _ | exact List.sublist_append_left _ _ | apply List.Sublist.cons | apply sub_app)))) | (apply endsN (h' := h) (rs := Tryz.f221.results.toList); (focus (first | exact .inl rfl | exact .inr rfl)); (focus exact rfl); (focus (rw [Tryz.results221]; repeat (first | exact RVs.nil | (apply RVs.cons; (focus (first | (apply RV.tmp; exact rfl) | (apply RV.cell; (focus exact rfl); (focus (repeat (first | exact List.Mem.head _ | apply List.Mem.tail | apply List.mem_append_right))); (focus exact rfl); (focus exact rfl); (focus exact rfl)) | (apply RV.cellA; (focus exact rfl); (focus (repeat (first | exact List.Mem.head _ | apply List.Mem.tail | apply List.mem_append_right))); (focus exact rfl); (focus exact rfl); (focus exact rfl)))))))); (focus exact rfl); (focus (repeat (first | exact List.Sublist.refl _ | exact List.sublist_append_left _ _ | apply List.Sublist.cons | apply sub_app)))))
  all_goals (cases b <;> simp [Nat.beq] <;> omega)
theorem X1_ok {w0 : World} (hL : LenOk w0) : XOk Tryz.prog w0 X1 := by
  intro f args v k h
  unfold X1 at h
  split at h
  · rename_i xs m g
    cases hb : ((Nat.beq g 276 || Nat.beq g 317) && Nat.ble m xs.length && Nat.ble xs.length 1048576) with
    | false => rw [hb] at h; cases h
    | true =>
      rw [hb] at h; simp only [cond_true, Option.some.injEq, Prod.mk.injEq] at h
      obtain ⟨rfl, rfl⟩ := h
      simp only [Bool.and_eq_true, Bool.or_eq_true, Nat.beq_eq, Nat.ble_eq] at hb
      refine ⟨rfl, fun ρ h => ?_⟩
      have := hL xs m g hb.1.1 hb.1.2 hb.2 h
      refine ⟨this.1, fun W hi => (this.2 W hi).mono ?_⟩
      rintro e W' ⟨u, h', e1, e2, rfl, e4⟩
      exact ⟨_, h', e1, e2, ⟨ρ, by simp [sh]⟩, e4⟩
  · rename_i xs
    cases hb : xs.all (fun b => Nat.blt b.toNat 128) with
    | false => rw [hb] at h; cases h
    | true =>
      rw [hb] at h; simp only [cond_true, Option.some.injEq, Prod.mk.injEq] at h
      obtain ⟨rfl, rfl⟩ := h
      refine ⟨rfl, fun ρ h => ?_⟩
      have := indexFunc w0 h (fun k => Nat.beq k 0) 221 #[] xs true (fun b hb2 => by have := List.all_eq_true.1 hb b hb2; rwa [Nat.blt_eq] at this) (fun b _ w0 h => pr221 b w0 h)
      refine ⟨this.1, fun W hi => (this.2 W hi).mono ?_⟩
      rintro e W' ⟨u, h', e1, e2, rfl, e4⟩
      exact ⟨_, h', e1, e2, ⟨ρ, by simp [sh]⟩, e4⟩
  · cases h
end
end Go.Proofs.YtpmjbobgglgnaaaGreatDoor
