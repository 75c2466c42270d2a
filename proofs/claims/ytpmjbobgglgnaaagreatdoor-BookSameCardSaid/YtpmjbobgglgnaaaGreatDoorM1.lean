/- Maps of method values, as val builds them: five entries, one for each kind. -/
import Derived.Test.YtpmjbobgglgnaaaGreatDoorS1
import Derived.MapKept
import Derived.Carry
namespace Go.Proofs.YtpmjbobgglgnaaaGreatDoor
open Go.RowKit Go.Lib
set_option linter.unusedVariables false
set_option linter.unusedSimpArgs false
theorem map_all : (match Tryz.prog.underlying 274, Tryz.prog.underlying 5 with | some (.map 5 275), some (.int .u8) => true | _, _ => false) = true := by decide +kernel
theorem map_ty : Tryz.prog.underlying 274 = some (.map 5 275) ∧ Tryz.prog.underlying 5 = some (.int .u8) := by
  have h := map_all
  split at h
  · rename_i h1 h2; exact ⟨h1, h2⟩
  · cases h
/-- The box b and the map r, made since W0. -/
structure MS (W0 : World) (b r : Nat) (cs : Array Value) (es : Array MapEntry) (W : World) : Prop where
  below : Below W0.heap.size W0 W
  box : W.heap[b]? = some (.cells cs 273 (0, 0))
  map : W.heap[r]? = some (.map es es.size)
  ne : b ≠ r
  gr : W0.heap.size ≤ r
def ent (es : Array MapEntry) (k : Int) (v : Value) : Array MapEntry := es.push { key := .int .u8 k, val := v, born := es.size }
theorem run_checkKey (k : Int) (W : World) (e : Bool) : (Instr.checkKey e 10000 5 (.int .u8 k)).run Tryz.prog W = .ok () W := by
  have h : ∀ n, (Instr.checkKey e (n + 1) 5 (.int .u8 k)).run Tryz.prog W = .ok () W := fun n => by
    simp [Instr.checkKey, Sem.run_bind, run_underlying map_ty.2]
  exact h 9999
theorem run_ins {W0 W : World} {b r : Nat} {cs : Array Value} {es : Array MapEntry} (H : MS W0 b r cs es W) {k : Int} {v : Value} (hf : Instr.findNow (.int .u8) (.int .u8 k) es.toList 0 = some none) :
    ∃ W', (Instr.mapUpdate 274 (.map (some r)) (.int .u8 k) v).run Tryz.prog W = .ok () W' ∧ MS W0 b r cs (ent es k v) W' := by
  have hlt : r < W.heap.size := (Array.getElem?_eq_some_iff.1 H.map).1
  refine ⟨{ W with heap := W.heap.setIfInBounds r (.map (ent es k v) (es.size + 1)) }, ?_, ?_⟩
  · simp only [Instr.mapUpdate, Sem.run_bind, run_underlying map_ty.1, Result.andThen_ok, MapKept.run_getObj_map H.map, run_checkKey, MapKept.run_findKey map_ty.2 hf, MapKept.run_setObj_map _ H.map, ent]
  · refine ⟨⟨H.below.os, H.below.tape, H.below.output, by simpa using H.below.size, fun j hj => ?_⟩, ?_, ?_, H.ne, H.gr⟩
    · rw [← H.below.block j hj]
      show (W.heap.setIfInBounds r _)[j]? = _
      rw [Array.getElem?_setIfInBounds_ne (by have := H.gr; omega)]
    · show (W.heap.setIfInBounds r _)[b]? = _
      rw [Array.getElem?_setIfInBounds_ne (Ne.symm H.ne)]; exact H.box
    · show (W.heap.setIfInBounds r _)[r]? = _
      simp [hlt, ent]
theorem wpl_skip {P : Program} {ops : Array Oper} {Q : Exit → Act → World → Prop} {o : Oper} {rest : List Oper} {a : Act} {W W' : World} (hw : Region.wanted o (yielded ops a.tmps) = true) (hd : o.dst = none) (he : (execOp a.eval o).run P W = .ok .skip W')
    (H : wpList P ops Q rest a W') : wpList P ops Q (o :: rest) a W := by
  unfold wpList
  rw [if_pos hw]
  left
  unfold Oper.wp
  rw [he]
  show wpList P ops Q rest (a.put o.dst undef) W'
  rw [hd]
  exact H
theorem ins3 {ops : Array Oper} {Q : Exit → Act → World → Prop} {o1 o2 o3 : Oper} {rest : List Oper} {tm : Array Value} {D : List Deferred} {W0 W : World} {b r n d1 d2 f : Nat} {vs : List Value} {es : Array MapEntry} {s : Sl} {k : Int}
    (g1 : o1.guard = none) (g2 : o2.guard = none) (g3 : o3.guard = none) (t1 : o1.dst = some d1) (t2 : o2.dst = some d2) (t3 : o3.dst = none)
    (p1 : o1.op = .load 273 (.tmp 1)) (p2 : o2.op = .makeFunc (.func f) #[.tmp d1] #[]) (p3 : o3.op = .insert 274 (.tmp 3) (.const (.int .u8 k)) (.tmp d2))
    (hk : Knows n s tm) (h1 : lk s 1 = some (.pointer (some ⟨b, 0, none⟩))) (h3 : lk s 3 = some (.map (some r))) (hd1 : Nat.blt d1 n = true) (hd2 : Nat.blt d2 n = true) (n3 : (d2 == 3) = false) (n31 : (d1 == 3) = false)
    (hl : vs.length = 3) (H : MS W0 b r vs.toArray es W) (hf : Instr.findNow (.int .u8) (.int .u8 k) es.toList 0 = some none)
    (K : ∀ tm' W', Knows n ((d2, .func (.func f) #[.agg vs.toArray] #[]) :: (d1, .agg vs.toArray) :: s) tm' → MS W0 b r vs.toArray (ent es k (.func (.func f) #[.agg vs.toArray] #[])) W' → wpList Tryz.prog ops Q rest ⟨tm', D⟩ W') :
    wpList Tryz.prog ops Q (o1 :: o2 :: o3 :: rest) ⟨tm, D⟩ W := by
  have w : ∀ (o : Oper) tm, o.guard = none → Region.wanted o (yielded ops tm) = true := fun o tm h => by unfold Region.wanted; rw [h]
  have hs : lkN szL 273 = some (2 + 1) := by decide +kernel
  have hcs := run_loadCells_list (P := Tryz.prog) W ⟨b, 0, none⟩ vs (fun j v hj => by rw [add0, Nat.zero_add, cell_rule H.box]; simpa using hj)
  have hload : (loadVar 273 ⟨b, 0, none⟩).run Tryz.prog W = .ok (.agg vs.toArray) W := by
    unfold loadVar
    rw [Sem.run_bind, (isAg rfl hs W).1]
    rw [hl] at hcs
    simp [Sem.run_bind, (isAg rfl hs W).2, hcs]
  refine wpl_val (v := .agg vs.toArray) (W' := W) (w _ _ g1) ?_ ?_
  · rw [ev_defers]
    unfold execOp
    rw [p1]
    simp only [ev_ok (ds := []) hk (o := .tmp 1) h1, loadAt_eq, Sem.run_bind, hload]
    rfl
  rw [put_eq, t1]
  have hk1 := hk.put (v := .agg vs.toArray) hd1
  refine wpl_val (v := .func (.func f) #[.agg vs.toArray] #[]) (W' := W) (w _ _ g2) ?_ ?_
  · rw [ev_defers]
    unfold execOp
    rw [p2]
    have := ev_ok (ds := []) hk1 (o := .tmp d1) (v := .agg vs.toArray) (by simp [ev, lk])
    simp only [Instr.makeFunc, List.map_toArray, List.map_cons, List.map_nil, aPut, this, Sem.run_bind, Sem.run_pure, Result.andThen_ok]
  rw [put_eq, t2]
  have hk2 := hk1.put (v := .func (.func f) #[.agg vs.toArray] #[]) hd2
  obtain ⟨W', hr, hm⟩ := run_ins H hf (v := .func (.func f) #[.agg vs.toArray] #[])
  refine wpl_skip (W' := W') (w _ _ g3) t3 ?_ (K _ W' hk2 hm)
  rw [ev_defers]
  unfold execOp
  rw [p3]
  have e1 := ev_ok (ds := []) hk2 (o := .tmp 3) (v := .map (some r)) (by
    simp only [ev, lk, n3, n31, cond_false, h3])
  have e2 := ev_ok (ds := []) hk2 (o := .tmp d2) (v := .func (.func f) #[.agg vs.toArray] #[]) (by simp [ev, lk])
  show (do Instr.mapUpdate 274 (Act.eval ⟨_, []⟩ (.tmp 3)) (.int .u8 k) (Act.eval ⟨_, []⟩ (.tmp d2)); pure Next.skip : Sem Next).run Tryz.prog W = _
  simp only [aPut]
  rw [e1, e2, Sem.run_bind, hr]
  rfl
end Go.Proofs.YtpmjbobgglgnaaaGreatDoor
