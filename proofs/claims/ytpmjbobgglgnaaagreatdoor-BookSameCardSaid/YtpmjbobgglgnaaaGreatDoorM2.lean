/- val.ToBool's map. -/
import Derived.Test.YtpmjbobgglgnaaaGreatDoorM1
namespace Go.Proofs.YtpmjbobgglgnaaaGreatDoor
open Go.RowKit Go.Lib
set_option linter.unusedVariables false
set_option linter.unusedSimpArgs false
def mv (f : Nat) (vs : List Value) : Value := .func (.func f) #[.agg vs.toArray] #[]
def es224 (vs : List Value) : Array MapEntry := ent (ent (ent (ent (ent #[] 0 (mv 225 vs)) 1 (mv 225 vs)) 2 (mv 226 vs)) 3 (mv 227 vs)) 4 (mv 226 vs)
set_option maxHeartbeats 4000000 in
set_option maxRecDepth 100000 in
theorem m224 (vs : List Value) (hl : vs.length = 3) (W : World) : Calls Tryz.prog 224 #[.agg vs.toArray] W (fun e W' => ∃ r, e = .returned (.map (some r)) ∧ Below W.heap.size W W' ∧ W'.heap[r]? = some (.map (es224 vs) 5)) := by
  refine calls_of_wp Tryz.func224 rfl ?_
  have hk0 : Knows 15 [(0, .agg vs.toArray)] ((#[.agg vs.toArray] : Array Value) ++ Array.replicate (Tryz.f224.ntmps - (#[.agg vs.toArray] : Array Value).size) undef) := by
    refine ⟨rfl, fun i v h => ?_⟩
    simp only [lk] at h
    cases hb : (0 == i) with
    | true =>
      rw [hb] at h
      have := eq_of_beq hb
      subst this
      simp only [cond_true, Option.some.injEq] at h
      subst h; rfl
    | false => rw [hb] at h; cases h
  refine wp_seq (wp_region_list (wpl_val (v := .pointer (some ⟨W.heap.size, 0, none⟩)) (W' := W.alloc (.cells vs.toArray 273)) rfl ?_ (wpl_val (v := .map none) (W' := W.alloc (.cells vs.toArray 273)) rfl rfl (wpList_nil ?_))))
  · have := ev_ok (ds := []) hk0 (o := .tmp 0) rfl
    simp only [execOp, this, Instr.box, newVar, newRow, Value.cells, Sem.run_bind, run_newObj_alloc]
    rfl
  have hk1 := (hk0.put (d := 1) (v := .pointer (some ⟨W.heap.size, 0, none⟩)) rfl).put (d := 2) (v := .map none) rfl
  rw [put_eq, put_eq]
  generalize hW1 : W.alloc (.cells vs.toArray 273) = W1
  have hb1 : W1.heap[W.heap.size]? = some (.cells vs.toArray 273 (0, 0)) := by rw [← hW1]; exact heap_alloc_new _ _
  have hbl : Below W.heap.size W W1 := by rw [← hW1]; exact (Below.refl _ _).alloc (Nat.le_refl _) _
  have hs1 : W1.heap.size = W.heap.size + 1 := by rw [← hW1]; exact Array.size_push _
  refine wp_seq (wp_region_list (wpl_val (v := .map (some W1.heap.size)) (W' := W1.alloc (.map #[] 0)) rfl ?_ ?_))
  · simp only [execOp, Option.map_none, Sem.run_bind, run_makeMap]
    rfl
  rw [put_eq]
  have hk2 := hk1.put (d := 3) (v := .map (some W1.heap.size)) rfl
  have M0 : MS W W.heap.size W1.heap.size vs.toArray #[] (W1.alloc (.map #[] 0)) := by
    refine ⟨hbl.alloc (by omega) _, ?_, heap_alloc_new _ _, by omega, by omega⟩
    exact blk_alloc hb1 _
  refine ins3 rfl rfl rfl rfl rfl rfl rfl rfl rfl hk2 rfl rfl rfl rfl rfl rfl hl M0 rfl fun tm W2 hk M => ?_
  refine ins3 rfl rfl rfl rfl rfl rfl rfl rfl rfl hk rfl rfl rfl rfl rfl rfl hl M (by simp [ent, Instr.findNow, Instr.sameNow]) fun tm W2 hk M => ?_
  refine ins3 rfl rfl rfl rfl rfl rfl rfl rfl rfl hk rfl rfl rfl rfl rfl rfl hl M (by simp [ent, Instr.findNow, Instr.sameNow]) fun tm W2 hk M => ?_
  refine ins3 rfl rfl rfl rfl rfl rfl rfl rfl rfl hk rfl rfl rfl rfl rfl rfl hl M (by simp [ent, Instr.findNow, Instr.sameNow]) fun tm W2 hk M => ?_
  refine ins3 rfl rfl rfl rfl rfl rfl rfl rfl rfl hk rfl rfl rfl rfl rfl rfl hl M (by simp [ent, Instr.findNow, Instr.sameNow]) fun tm W2 hk M => ?_
  refine wpl_val (v := .map (some W1.heap.size)) (W' := W2) rfl ?_ (wpl_val (v := .map (some W1.heap.size)) (W' := W2) rfl ?_ (wpList_nil ?_))
  · have := ev_ok (ds := []) hk (o := .tmp 3) (v := .map (some W1.heap.size)) rfl
    simp only [execOp, this]; rfl
  · rw [put_eq]
    have := ev_ok (ds := []) (hk.put (d := 14) (v := .map (some W1.heap.size)) rfl) (o := .tmp 14) (v := .map (some W1.heap.size)) rfl
    simp only [execOp, aPut, this]; rfl
  rw [put_eq, put_eq]
  refine wp_ret ?_
  have hk3 := (hk.put (d := 14) (v := .map (some W1.heap.size)) rfl).put (d := 2) (v := .map (some W1.heap.size)) rfl
  refine ⟨rfl, .map (some W1.heap.size), ?_, W1.heap.size, rfl, M.below, ?_⟩
  · have := hk3.2 2 _ rfl
    simp [results, Tryz.results224, go_sem, aPut, Array.getD_eq_getD_getElem?, this]
  · exact M.map
end Go.Proofs.YtpmjbobgglgnaaaGreatDoor
