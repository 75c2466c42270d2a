/- parse.Formula's deferred call at the end of a run without a panic; all functions are entered. -/
import Derived.Test.YtpmjbobgglgnaaaGreatDoorE13
import Derived.Recover
import Derived.WideLaws
namespace Go.Proofs.YtpmjbobgglgnaaaGreatDoor
open Go.RowKit
theorem names_all : Tryz.prog.funcs.toList.all (fun fn => !(fn.name == "runtime.NumGoroutine")) = true := by decide +kernel
theorem enters : Enters Tryz.prog := fun f fn hf hb args W => by
  have hn : (fn.name == "runtime.NumGoroutine") = false := by
    have := List.all_eq_true.1 names_all fn (Array.mem_toList_iff.2 (Array.mem_of_getElem? hf))
    simpa using this
  have hb' : fn.body.isNone = false := by cases h : fn.body <;> simp [h] at hb ⊢
  simp only [callFunc, Sem.run_bind, run_program, Result.andThen_ok, hf, hn, hb', Bool.false_eq_true, if_false]
  rfl
theorem mixed : Tryz.prog.follows .mixedOrders = true := by decide +kernel
theorem if20_all : (match Tryz.prog.underlying 20 with | some (.interface _) => true | _ => false) = true := by decide +kernel
theorem if20 : ∃ ms, Tryz.prog.underlying 20 = some (.interface ms) := by
  have h := if20_all
  split at h
  · rename_i ms hu; exact ⟨ms, hu⟩
  · cases h
theorem eq_niliD (d : Nat) (W : World) : (Op.equalIn (d + 1) 20 .nilIface .nilIface).run Tryz.prog W = .ok true W := by
  obtain ⟨ms, h⟩ := if20
  simp [Op.equalIn, Sem.run_bind, run_underlying h]
theorem maxD1 : Op.maxDepth = 9999 + 1 := by decide +kernel
theorem eq_nili (W : World) : (Op.equal 20 .nilIface .nilIface).run Tryz.prog W = .ok true W := by
  rw [Op.equal, maxD1]
  exact eq_niliD 9999 W
set_option maxHeartbeats 4000000 in
set_option maxRecDepth 100000 in
theorem dok : DOk Tryz.prog 189 := fun args W hsz => ⟨enters 189 Tryz.f189 Tryz.func189 rfl args W, by
  refine callsD_of_wpS Tryz.func189 rfl fun c₀ cs hu => ?_
  apply wpS_seq
  apply wpS_region
  have hrec : recoverD (c₀ :: cs) = none := by simp [recoverD, hu]
  have hex : ∀ tm, (execOp (Act.eval ⟨tm, []⟩) ({ dst := some 6, op := Op.call { callee := Callee.builtin Builtin.recover, args := #[], argTypes := #[] }, type := 20, pos := "parse.go:209", after := #[], guard := none } : Oper)).run Tryz.prog W = .ok .recover W := fun tm => by
    simp only [execOp, resolve, Array.map_empty, Sem.run_bind, Sem.run_pure, Result.andThen_ok, invoke, builtin]
  simp only [List.size_toArray, List.length_cons, List.length_nil, Nat.zero_add, List.range_succ, List.range_zero, List.nil_append, wpOpsS, List.getElem?_toArray, List.getElem?_cons_zero, Region.wanted, if_true, hex, hrec, Exit.thenS]
  refine wpS_of_wp ?_
  have hkn : Knows 16 [(6, .nilIface)] ((args ++ Array.replicate (Tryz.f189.ntmps - args.size) undef).setIfInBounds 6 .nilIface) := by
    have hnt : Tryz.f189.ntmps = 16 := rfl
    have hs : (args ++ Array.replicate (Tryz.f189.ntmps - args.size) undef).size = 16 := by
      rw [hnt]; simp; omega
    have k0 : Knows 16 [] (args ++ Array.replicate (Tryz.f189.ntmps - args.size) undef) := ⟨hs, fun i v h => by cases h⟩
    exact k0.put rfl
  refine wp_mono (Q := post W 16 [] (fun e _ _ => e = .normal)) ?_ fun e a W' hp => ?_
  · refine (show AW Tryz.prog W 16 _ (fun e _ _ => e = .normal) [(6, .nilIface)] [] from ?_) [] _ W hkn (Inv.start W)
    refine aw_block ?_
    refine aw_seq ?_
    refine aw_region rfl (ac_y (v := .bool true) ?_ rfl (ac_nil ?_))
    · refine y_yield wan_free (fun tm W' hk hi => ?_)
      have hx : Act.eval ⟨tm, []⟩ (.tmp 6) = .nilIface := ev_ok hk rfl
      show (do let r ← (do eqGuard .eql 20 (.tmp 6) (.const .nilIface) (Act.eval ⟨tm, []⟩ (.tmp 6)) .nilIface; binOp .eql 20 (Act.eval ⟨tm, []⟩ (.tmp 6)) .nilIface : Sem Value); pure (Next.value r) : Sem Next).run Tryz.prog W' = _
      rw [hx]
      simp [eqGuard, binOp, Sem.run_bind, eq_nili]
    · refine aw_cond_on (t := true) rfl rfl ?_
      refine aw_region rfl (ac_y (y_assign rfl wan_free) rfl (ac_nil ?_))
      rfl
  · obtain ⟨s', h', hk', hi', hd, rfl⟩ := hp
    exact ⟨hd, .returning, by rw [← hu], .tuple #[], by simp [results, Tryz.results189, go_sem], ⟨_, rfl⟩, rfl, hi'.below⟩⟩
end Go.Proofs.YtpmjbobgglgnaaaGreatDoor
