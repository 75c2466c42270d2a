/- Variables and values that are made: zero values, structs, literals of slices; the greater and the lesser. -/
import Derived.Test.YtpmjbobgglgnaaaGreatDoorV5
namespace Go.Proofs.YtpmjbobgglgnaaaGreatDoor
open Go.RowKit
set_option linter.unusedSimpArgs false
set_option linter.unusedVariables false
def vEq : Value → Value → Bool
  | .bool a, .bool b => a == b
  | .int k a, .int l b => decide (k = l) && a == b
  | .string a, .string b => decide (a = b)
  | .pointer none, .pointer none => true
  | .slice none a b, .slice none c d => Nat.beq a c && Nat.beq b d
  | .nilFunc, .nilFunc => true
  | .map none, .map none => true
  | .nilIface, .nilIface => true
  | _, _ => false
theorem vEq_eq {a b : Value} (h : vEq a b = true) : a = b := by
  unfold vEq at h
  split at h <;> simp_all [Nat.beq_eq_true_eq]
def vsEq : List Value → List Value → Bool
  | [], [] => true
  | a :: av, b :: bv => vEq a b && vsEq av bv
  | _, _ => false
theorem vsEq_eq : ∀ {a b : List Value}, vsEq a b = true → a = b
  | [], [], _ => rfl
  | a :: av, b :: bv, h => by
    simp only [vsEq, Bool.and_eq_true] at h
    rw [vEq_eq h.1, vsEq_eq h.2]
  | [], _ :: _, h => by cases h
  | _ :: _, [], h => by cases h
/-- The zero values' cells. -/
def zL : List (Nat × List Value) := [(2, [(.int .i64 0)]), (3, [(.int .i64 0)]), (4, [(.bool false)]), (5, [(.int .u8 0)]), (9, [(.string ⟨#[]⟩)]), (28, [.int .i64 0, .slice none 0 0, .slice none 0 0, .slice none 0 0, .slice none 0 0, .slice none 0 0, .int .i64 0]), (32, [.int .i64 0, .int .i64 0, .int .i64 0, .int .i64 0]), (33, [(.int .u64 0)]), (35, [.int .u64 0, .int .u64 0, .int .u64 0]), (37, [.int .u8 0, .int .i64 0, .int .i64 0, .int .i64 0, .int .i64 0, .int .i64 0, .string ⟨#[]⟩, .int .u64 0, .int .u64 0, .int .u64 0, .int .u8 0, .int .u64 0, .int .i64 0]), (39, [(.int .i64 0)]), (55, [.int .i64 0, .int .i64 0]), (57, [.int .i64 0, .int .i64 0, .string ⟨#[]⟩]), (59, [.int .i64 0, .int .i64 0, .int .i64 0, .int .i64 0, .int .u64 0, .int .u64 0, .int .u64 0]), (61, [.int .i64 0, .int .i64 0, .int .i64 0, .int .i64 0, .int .u8 0, .int .u64 0, .int .i64 0, .bool false]), (63, [.int .i64 0, .int .i64 0, .int .u8 0, .int .i64 0, .int .i64 0, .int .i64 0, .int .i64 0, .bool false, .int .u64 0]), (65, [.int .i64 0, .int .i64 0, .int .i64 0]), (67, [.int .i64 0, .int .i64 0, .int .i64 0, .int .i64 0, .int .u8 0, .int .i64 0, .int .i64 0, .int .i64 0, .int .i64 0, .int .i64 0, .int .u64 0]), (121, [.int .i64 0, .int .i64 0]), (123, [.int .i64 0, .int .i64 0, .int .i64 0, .int .i64 0, .int .i64 0, .int .i64 0]), (137, [.int .u8 0, .nilFunc]), (141, [.int .u8 0, .int .i64 0, .string ⟨#[]⟩]), (142, [(.slice none 0 0)]), (144, [.bool false, .int .u8 0, .int .i64 0, .string ⟨#[]⟩, .slice none 0 0]), (163, [(.slice none 0 0)]), (175, [(.slice none 0 0)]), (178, [.int .i64 0, .int .i64 0, .int .i64 0, .int .i64 0, .int .i64 0, .int .u8 0]), (179, [(.slice none 0 0)]), (187, [.slice none 0 0]), (189, [.int .i64 0, .int .i64 0, .slice none 0 0, .slice none 0 0]), (193, [.int .i64 0, .int .i64 0, .int .i64 0, .int .u8 0, .int .i64 0, .int .i64 0, .int .i64 0, .int .i64 0, .int .i64 0]), (214, [.map none]), (220, [.slice none 0 0, .slice none 0 0]), (226, [.nilFunc]), (237, [.int .i64 0, .int .i64 0]), (240, [.slice none 0 0, .int .i64 0, .slice none 0 0]), (242, [.int .u8 0, .int .i64 0, .string ⟨#[]⟩, .int .i64 0, .int .i64 0, .int .i64 0, .int .i64 0, .int .i64 0]), (252, [.string ⟨#[]⟩, .slice none 0 0, .int .i64 0, .slice none 0 0, .int .i64 0, .int .i64 0]), (273, [.int .u8 0, .int .i64 0, .string ⟨#[]⟩]), (283, [.string ⟨#[]⟩]), (285, [.nilFunc, .nilFunc, .nilFunc, .nilFunc, .nilFunc]), (292, [.int .u64 0, .int .u64 0]), (299, [.int .u8 0, .int .u8 0, .int .i64 0, .string ⟨#[]⟩, .int .i64 0, .int .i64 0, .int .i64 0, .int .i64 0, .int .i64 0, .int .u8 0, .int .i64 0]), (304, [.int .i64 0, .int .i64 0]), (346, [(.int .u64 0)]), (360, [.int .i64 0, .int .i64 0, .int .i64 0, .int .i64 0, .bool false]), (366, [.int .i64 0, .int .i64 0, .bool false]), (394, [.int .u8 0, .int .u8 0, .int .u8 0, .int .u8 0, .int .u8 0, .int .u8 0, .int .u8 0, .int .u8 0, .int .u8 0, .int .u8 0, .int .u8 0, .int .u8 0, .int .u8 0, .int .u8 0, .int .u8 0, .int .u8 0, .int .u8 0, .int .u8 0, .int .u8 0, .int .u8 0]), (395, [.string ⟨#[]⟩, .string ⟨#[]⟩, .string ⟨#[]⟩, .string ⟨#[]⟩, .string ⟨#[]⟩, .string ⟨#[]⟩, .string ⟨#[]⟩, .string ⟨#[]⟩, .string ⟨#[]⟩, .string ⟨#[]⟩, .string ⟨#[]⟩, .string ⟨#[]⟩, .string ⟨#[]⟩, .string ⟨#[]⟩, .string ⟨#[]⟩, .string ⟨#[]⟩, .string ⟨#[]⟩, .string ⟨#[]⟩, .string ⟨#[]⟩, .string ⟨#[]⟩, .string ⟨#[]⟩, .string ⟨#[]⟩, .string ⟨#[]⟩, .string ⟨#[]⟩, .string ⟨#[]⟩, .string ⟨#[]⟩, .string ⟨#[]⟩, .string ⟨#[]⟩, .string ⟨#[]⟩, .string ⟨#[]⟩, .string ⟨#[]⟩, .string ⟨#[]⟩, .string ⟨#[]⟩, .string ⟨#[]⟩, .string ⟨#[]⟩, .string ⟨#[]⟩, .string ⟨#[]⟩, .string ⟨#[]⟩, .string ⟨#[]⟩, .string ⟨#[]⟩, .string ⟨#[]⟩, .string ⟨#[]⟩, .string ⟨#[]⟩, .string ⟨#[]⟩, .string ⟨#[]⟩, .string ⟨#[]⟩, .string ⟨#[]⟩, .string ⟨#[]⟩, .string ⟨#[]⟩, .string ⟨#[]⟩])]
def lkV : List (Nat × List Value) → Nat → Option (List Value)
  | [], _ => none
  | (i, v) :: s, j => bif Nat.beq i j then some v else lkV s j
theorem z_all : zL.all (fun (t, vs) => match Tryz.prog.info? t with
    | some i => (match i.zero with | some z => vsEq z.cells.toList vs && Nat.beq i.size vs.length | none => false)
    | none => false) = true := by decide +kernel
theorem lkV_mem : ∀ {l : List (Nat × List Value)} {t : Nat} {v : List Value}, lkV l t = some v → (t, v) ∈ l
  | (i, u) :: s, t, v, h => by
    simp only [lkV] at h
    cases hb : Nat.beq i t with
    | true => rw [hb] at h; have := Nat.eq_of_beq_eq_true hb; subst this; simp only [cond_true, Option.some.injEq] at h; subst h; exact .head _
    | false => rw [hb] at h; exact .tail _ (lkV_mem h)
theorem z_ty {t : Nat} {vs : List Value} (h : lkV zL t = some vs) : ∃ z, z.cells = vs.toArray ∧ ∀ W, (zeroValue t).run Tryz.prog W = .ok z W ∧ (sizeOf t).run Tryz.prog W = .ok vs.length W := by
  have hc := List.all_eq_true.1 z_all _ (lkV_mem h)
  simp only at hc
  split at hc
  · rename_i i hi
    split at hc
    · rename_i z hz
      simp only [Bool.and_eq_true] at hc
      refine ⟨z, ?_, fun W => ⟨?_, ?_⟩⟩
      · rw [← vsEq_eq hc.1]
      · simp [zeroValue, typeInfo, hi, hz]
      · rw [sizeOf_run hi, Nat.eq_of_beq_eq_true hc.2]
    · cases hc
  · cases hc
/-- The structs' fields: where each begins, how many cells. -/
def fsL : List (Nat × List (Nat × Nat)) := [(28, [(0, 1), (1, 1), (2, 1), (3, 1), (4, 1), (5, 1), (6, 1)]), (32, [(0, 1), (1, 1), (2, 1), (3, 1)]), (35, [(0, 1), (1, 1), (2, 1)]), (37, [(0, 1), (1, 1), (2, 4), (6, 1), (7, 3), (10, 1), (11, 1), (12, 1)]), (55, [(0, 1), (1, 1)]), (57, [(0, 2), (2, 1)]), (59, [(0, 4), (4, 3)]), (61, [(0, 4), (4, 1), (5, 1), (6, 1), (7, 1)]), (63, [(0, 1), (1, 1), (2, 1), (3, 4), (7, 1), (8, 1)]), (65, [(0, 2), (2, 1)]), (67, [(0, 1), (1, 3), (4, 1), (5, 4), (9, 1), (10, 1)]), (123, [(0, 4), (4, 2)]), (137, [(0, 1), (1, 1)]), (141, [(0, 1), (1, 1), (2, 1)]), (144, [(0, 1), (1, 3), (4, 1)]), (178, [(0, 4), (4, 1), (5, 1)]), (187, [(0, 1)]), (189, [(0, 2), (2, 1), (3, 1)]), (193, [(0, 3), (3, 1), (4, 4), (8, 1)]), (214, [(0, 1)]), (220, [(0, 1), (1, 1)]), (237, [(0, 1), (1, 1)]), (240, [(0, 1), (1, 1), (2, 1)]), (242, [(0, 1), (1, 1), (2, 1), (3, 4), (7, 1)]), (252, [(0, 1), (1, 1), (2, 1), (3, 1), (4, 1), (5, 1)]), (273, [(0, 1), (1, 1), (2, 1)]), (283, [(0, 1)]), (292, [(0, 1), (1, 1)]), (299, [(0, 1), (1, 3), (4, 4), (8, 1), (9, 1), (10, 1)]), (304, [(0, 1), (1, 1)]), (360, [(0, 2), (2, 2), (4, 1)]), (366, [(0, 1), (1, 1), (2, 1)])]
def lkS : List (Nat × List (Nat × Nat)) → Nat → Option (List (Nat × Nat))
  | [], _ => none
  | (i, v) :: s, j => bif Nat.beq i j then some v else lkS s j
theorem lkS_mem : ∀ {l : List (Nat × List (Nat × Nat))} {t : Nat} {v : List (Nat × Nat)}, lkS l t = some v → (t, v) ∈ l
  | (i, u) :: s, t, v, h => by
    simp only [lkS] at h
    cases hb : Nat.beq i t with
    | true => rw [hb] at h; have := Nat.eq_of_beq_eq_true hb; subst this; simp only [cond_true, Option.some.injEq] at h; subst h; exact .head _
    | false => rw [hb] at h; exact .tail _ (lkS_mem h)
theorem fs_all : fsL.all (fun (t, v) => match Tryz.prog.underlying t with
    | some (.struct fs) => (fs.toList.map fun f => (f.offset, match Tryz.prog.info? f.type with | some i => i.size | none => 99999)) == v && fs.toList.all (fun f => (Tryz.prog.info? f.type).isSome)
    | _ => false) = true := by decide +kernel
/-- Parts put into cells, as 'fill' does. -/
def fillL (place : Nat → Option (Nat × Nat)) : List Value → List (Nat × Value) → Option (List Value)
  | cs, [] => some cs
  | cs, (i, v) :: rest => match place i, cellsL v with
    | some (off, size), some vs => bif Nat.beq vs.length size && !vs.isEmpty then (match setsL cs off vs with | some l => fillL place l rest | none => none) else none
    | _, _ => none
theorem foldl_sets : ∀ (vs : List Value) (cs : Array Value) (off j : Nat), (vs.zipIdx j).foldl (fun cs (c, j) => cs.setIfInBounds (off + j) c) cs = setsA cs (off + j) vs
  | [], cs, off, j => rfl
  | v :: vs, cs, off, j => by
    simp only [List.zipIdx_cons, List.foldl_cons, setsA]
    rw [foldl_sets vs _ off (j + 1)]; rfl
theorem fillL_eq {place : Nat → Option (Nat × Nat)} : ∀ {parts : List (Nat × Value)} {cs l : List Value}, fillL place cs parts = some l → Instr.fill place cs.toArray parts = some l.toArray
  | [], cs, l, h => by simp only [fillL, Option.some.injEq] at h; subst h; rfl
  | (i, v) :: rest, cs, l, h => by
    simp only [fillL] at h
    split at h
    · rename_i off size vs hp hc
      cases hb : (Nat.beq vs.length size && !vs.isEmpty) with
      | false => rw [hb] at h; cases h
      | true =>
        rw [hb] at h
        simp only [cond_true] at h
        simp only [Bool.and_eq_true, Bool.not_eq_true'] at hb
        split at h
        · rename_i l' hl'
          have hsz := Nat.eq_of_beq_eq_true hb.1
          have hl2 : setsL cs.toArray.toList off vs = some l' := by simpa using hl'
          obtain ⟨h2, h3⟩ := setsL_eq hl2
          have hle : ¬ (off + vs.length > cs.length) := by
            rcases h2 with rfl | h2
            · cases hb.2
            · simpa using h2
          simp only [Instr.fill, hp, cellsL_eq hc]
          have h4 := foldl_sets vs cs.toArray off 0
          rw [Nat.add_zero, h3] at h4
          have ih := fillL_eq h
          have c1 : ¬ (vs.toArray.size ≠ size) := by simp [hsz]
          have c2 : ¬ (off + vs.toArray.size > cs.toArray.size) := by simpa using hle
          simp only [c1, c2, decide_false, Bool.or_self, Bool.false_eq_true, if_false]
          rw [← ih, ← h4, ← Array.foldl_toList, Array.toList_zipIdx]
        · cases h
    · cases h
section
variable {w0 : World} {n : Nat} {Q : AQ} {s : Sl} {h : List Bx} {rest : List CO} {g : Option (Option Tmp × Bool)} {d : Nat} {dd : Option Tmp} {ty t : TypeId} {x y : Operand} {op : Op}
set_option maxRecDepth 20000 in
theorem ac_alloc {vs : List Value} (hz : lkV zL t = some vs) (hw : Wan s g true) (hd : Nat.blt d n = true)
    (H : ∀ r, AC Tryz.prog w0 n Q rest ((d, .pointer (some ⟨r, 0, none⟩)) :: s) (⟨r, vs.toArray, t⟩ :: h)) : AC Tryz.prog w0 n Q (⟨some d, .alloc t, ty, g⟩ :: rest) s h := fun D tm W hk hi => .inr ⟨hw n tm hk, by
    obtain ⟨z, hzc, hzr⟩ := z_ty hz
    have e : (execOp (Act.eval ⟨tm, []⟩) (CO.oper ⟨some d, .alloc t, ty, g⟩)).run Tryz.prog W = .ok (.value (.pointer (some ⟨W.heap.size, 0, none⟩))) (W.alloc (.cells vs.toArray t)) := by
      have e1 := (hzr W).1
      show Sem.run _ (do let v ← (do let zero ← zeroValue t; pure (.pointer (some (← newVar t zero)))); pure (Next.value v)) W = _
      rw [Sem.run_bind, Sem.run_bind, e1]
      simp only [Result.andThen_ok, newVar, newRow, hzc, Sem.run_bind, run_newObj_alloc]; rfl
    simp only [Oper.wp, ev_defers tm D, e, Oper.upon]
    rw [show (CO.oper ⟨some d, .alloc t, ty, g⟩).dst = some d from rfl, put_eq]; exact ⟨rfl, _, _, hk.put hd, hi.alloc _ _, H _⟩⟩
theorem run_builtin {b : Builtin} {os : Array Operand} {tys : Array TypeId} {vs : List Value} {tm : Array Value} (hk : Knows n s tm) (ha : evs s os.toList = some vs) :
    execOp (Act.eval ⟨tm, []⟩) (CO.oper ⟨dd, .call ⟨.builtin b, os, tys⟩, ty, g⟩) = builtin b tys ty (os.map fun | .const _ => true | _ => false) vs.toArray := by
  have ea : os.map (Act.eval ⟨tm, []⟩) = vs.toArray := by rw [← evs_ok (ds := []) hk ha, ← List.map_toArray]
  simp only [execOp, CO.oper, resolve, ea, pure_bind, invoke]
  rfl
theorem y_max {k : IntKind} {a b : Int} {tys : Array TypeId} (hx : ev s x = some (.int k a)) (hy : ev s y = some (.int k b)) (hw : Wan s g true) : Y Tryz.prog w0 n s h ⟨dd, .call ⟨.builtin .max, #[x, y], tys⟩, ty, g⟩ (.int k (max a b)) :=
  y_yield hw (fun tm W hk _ => by
    rw [run_builtin (vs := [.int k a, .int k b]) hk (by simp only [evs, hx, hy])]
    show Sem.run _ (do pure (Next.value (← (do let z ← Builtin.max2 (.int k a) (.int k b); pure z)))) W = _
    rw [show max a b = (if b > a then b else a) by split <;> omega]
    rfl)
theorem y_min {k : IntKind} {a b : Int} {tys : Array TypeId} (hx : ev s x = some (.int k a)) (hy : ev s y = some (.int k b)) (hw : Wan s g true) : Y Tryz.prog w0 n s h ⟨dd, .call ⟨.builtin .min, #[x, y], tys⟩, ty, g⟩ (.int k (min a b)) :=
  y_yield hw (fun tm W hk _ => by
    rw [run_builtin (vs := [.int k a, .int k b]) hk (by simp only [evs, hx, hy])]
    show Sem.run _ (do pure (Next.value (← (do let z ← Builtin.min2 (.int k a) (.int k b); pure z)))) W = _
    rw [show min a b = (if b < a then b else a) by split <;> omega]
    rfl)
def evp (s : Sl) : List (Nat × Operand) → Option (List (Nat × Value))
  | [] => some []
  | (i, o) :: os => match ev s o, evp s os with
    | some v, some vs => some ((i, v) :: vs)
    | _, _ => none
theorem evp_ok {tm : Array Value} {ds : List Deferred} (H : Knows n s tm) : ∀ {os : List (Nat × Operand)} {vs : List (Nat × Value)}, evp s os = some vs → os.map (fun (i, x) => (i, Act.eval ⟨tm, ds⟩ x)) = vs
  | [], _, h => by simp only [evp, Option.some.injEq] at h; exact h
  | (i, o) :: os, vs, h => by
    simp only [evp] at h
    split at h
    · rename_i v us h1 h2
      simp only [Option.some.injEq] at h
      subst h
      simp only [List.map_cons, ev_ok H h1, evp_ok H h2]
    · cases h
theorem y_build {parts : Array (Nat × Operand)} {pv : List (Nat × Value)} {zs cs : List Value} {fs : List (Nat × Nat)} (hp : evp s parts.toList = some pv) (hz : lkV zL t = some zs) (hf : lkS fsL t = some fs)
    (hc : fillL (fun i => fs[i]?) zs pv = some cs) (hw : Wan s g true) : Y Tryz.prog w0 n s h ⟨dd, .build t parts, ty, g⟩ (.agg cs.toArray) := by
  have hl := List.all_eq_true.1 fs_all _ (lkS_mem hf)
  simp only at hl
  split at hl
  · rename_i fl hu
    simp only [Bool.and_eq_true, beq_iff_eq] at hl
    obtain ⟨z, hzc, hzr⟩ := z_ty hz
    refine y_yield hw (fun tm W hk hi => ?_)
    have hm : (fl.mapM fun f => do pure (f.offset, ← sizeOf f.type) : Sem (Array (Nat × Nat))).run Tryz.prog W = .ok fs.toArray W := by
      have key : ∀ l : List Field, (l.all fun f => (Tryz.prog.info? f.type).isSome) = true → (l.mapM fun f => do pure (f.offset, ← sizeOf f.type) : Sem (List (Nat × Nat))).run Tryz.prog W = .ok (l.map fun f => (f.offset, match Tryz.prog.info? f.type with | some i => i.size | none => 99999)) W := fun l => by
        induction l with
        | nil => intro _; rfl
        | cons f l ih =>
          intro h
          simp only [List.all_cons, Bool.and_eq_true] at h
          obtain ⟨i, hi⟩ := Option.isSome_iff_exists.1 h.1
          simp only [List.mapM_cons, Sem.run_bind, sizeOf_run hi, Result.andThen_ok, Sem.run_pure, ih h.2, List.map_cons, hi]
      have hk2 := key fl.toList hl.2
      rw [← hl.1, ← Array.toArray_toList (xs := fl), List.mapM_toArray, Sem.run_map, hk2]
      simp
    have ep : (parts.map fun (i, x) => (i, Act.eval ⟨tm, []⟩ x)).toList = pv := by rw [Array.toList_map]; exact evp_ok hk hp
    simp only [execOp, CO.oper, Instr.build, Sem.run_bind, (hzr W).1, Result.andThen_ok, run_underlying hu, hm]
    rw [ep, hzc]
    have := fillL_eq hc
    simp only [List.getElem?_toArray] at this ⊢
    rw [this]
    rfl
  · cases hl
def elL : List (Nat × Nat) := [(22, 57), (23, 59), (24, 61), (25, 63), (26, 67), (29, 37), (51, 55), (84, 9), (118, 33), (119, 123), (142, 299), (148, 137), (163, 121), (175, 178), (179, 3), (185, 189), (231, 226), (233, 242), (256, 32), (267, 5), (300, 304), (337, 2), (362, 366)]
theorem el_all : elL.all (fun (t, e) => match Tryz.prog.underlying t with | some (.slice e') => Nat.beq e' e | _ => false) = true := by decide +kernel
theorem el_ty {t e : Nat} (h : lkN elL t = some e) : Tryz.prog.underlying t = some (.slice e) := by
  have hc := List.all_eq_true.1 el_all _ (lkN_mem h)
  simp only at hc
  split at hc
  · rename_i e' hu
    rw [hu, Nat.eq_of_beq_eq_true hc]
  · cases hc
set_option maxRecDepth 20000 in
theorem ac_buildSlice {parts : Array (Nat × Operand)} {pv : List (Nat × Value)} {zs cs : List Value} {e len k : Nat} (he : lkN elL t = some e) (hp : evp s parts.toList = some pv) (hz : lkV zL e = some zs) (hk : zs.length = k)
    (hc : fillL (fun i => some (i * k, k)) ((List.range (len * k)).map fun i => zs.toArray[i % k]!) pv = some cs) (hlen : (Nat.ble (len * k) 16777216 && Nat.blt 0 (len * k)) = true) (hw : Wan s g true) (hd : Nat.blt d n = true)
    (H : ∀ r, AC Tryz.prog w0 n Q rest ((d, .slice (some ⟨r, 0, none⟩) len len) :: s) (⟨r, cs.toArray, e⟩ :: h)) : AC Tryz.prog w0 n Q (⟨some d, .buildSlice t len parts, ty, g⟩ :: rest) s h := fun D tm W hkn hi => .inr ⟨hw n tm hkn, by
    obtain ⟨z, hzc, hzr⟩ := z_ty hz
    have hu := el_ty he
    have e1 := (hzr W).1
    have e2 := (hzr W).2
    simp only [Bool.and_eq_true, Nat.ble_eq, Nat.blt_eq] at hlen
    have ep : (parts.map fun (i, x) => (i, Act.eval ⟨tm, []⟩ x)).toList = pv := by rw [Array.toList_map]; exact evp_ok hkn hp
    have hstart : ((Array.range (len * zs.length)).map fun i => zs.toArray[i % zs.toArray.size]!) = ((List.range (len * k)).map fun i => zs.toArray[i % k]!).toArray := by
      apply Array.toList_inj.1
      simp [hk]
    have hfill := fillL_eq hc
    have hb : (Instr.buildSlice t len (parts.map fun (i, x) => (i, Act.eval ⟨tm, []⟩ x))).run Tryz.prog W = .ok (.slice (some ⟨W.heap.size, 0, none⟩) len len) (W.alloc (.cells cs.toArray e)) := by
      have n1 : ¬ (len * zs.length > 2 ^ 24) := by rw [hk]; omega
      have n2 : ¬ (len * zs.length = 0) := by rw [hk]; omega
      simp only [Instr.buildSlice, Sem.run_bind, run_underlying hu, Result.andThen_ok, e2, n1, n2, if_false, e1, hzc, pure_bind, Sem.run_pure]
      rw [hstart, ep]
      rw [hk, hfill]
      simp [newRow, Sem.run_bind]
    have e0 : (execOp (Act.eval ⟨tm, []⟩) (CO.oper ⟨some d, .buildSlice t len parts, ty, g⟩)).run Tryz.prog W = .ok (.value (.slice (some ⟨W.heap.size, 0, none⟩) len len)) (W.alloc (.cells cs.toArray e)) := by
      show Sem.run _ (do let v ← Instr.buildSlice t len (parts.map fun (i, x) => (i, Act.eval ⟨tm, []⟩ x)); pure (Next.value v)) W = _
      rw [Sem.run_bind, hb]; rfl
    simp only [Oper.wp, ev_defers tm D, e0, Oper.upon]
    rw [show (CO.oper ⟨some d, .buildSlice t len parts, ty, g⟩).dst = some d from rfl, put_eq]; exact ⟨rfl, _, _, hkn.put hd, hi.alloc _ _, H _⟩⟩
end
end Go.Proofs.YtpmjbobgglgnaaaGreatDoor
