/- Types of the program, as far as the walks ask for them; reads, stores and calls of the condition maker at this program. -/
import Derived.Test.YtpmjbobgglgnaaaGreatDoorV1
namespace Go.Proofs.YtpmjbobgglgnaaaGreatDoor
open Go.RowKit
set_option linter.unusedSimpArgs false
set_option linter.unusedVariables false
def lkN : List (Nat × Nat) → Nat → Option Nat
  | [], _ => none
  | (i, v) :: s, j => bif Nat.beq i j then some v else lkN s j
/-- The types that take more than one cell (a struct, an array: how many), and those that no variable has (0). -/
def szL : List (Nat × Nat) := [(7, 4), (8, 4), (13, 2), (14, 2), (18, 1), (19, 1), (27, 7), (28, 7), (31, 4), (32, 4), (34, 3), (35, 3), (36, 13), (37, 13), (54, 2), (55, 2), (56, 3), (57, 3), (58, 7), (59, 7), (60, 8), (61, 8), (62, 9), (63, 9), (64, 3), (65, 3), (66, 11), (67, 11), (121, 2), (122, 6), (123, 6), (137, 2), (140, 3), (141, 3), (143, 5), (144, 5), (177, 6), (178, 6), (186, 1), (187, 1), (188, 4), (189, 4), (192, 9), (193, 9), (213, 1), (214, 1), (219, 2), (220, 2), (236, 2), (237, 2), (239, 3), (240, 3), (241, 8), (242, 8), (251, 6), (252, 6), (273, 3), (277, 8), (282, 1), (283, 1), (285, 5), (291, 2), (292, 2), (298, 11), (299, 11), (303, 2), (304, 2), (359, 5), (360, 5), (365, 3), (366, 3), (394, 20), (395, 50), (399, 4), (400, 4), (411, 11), (412, 11), (0, 0), (40, 0), (52, 0), (72, 0), (77, 0), (80, 0), (82, 0), (87, 0), (93, 0), (97, 0), (132, 0), (134, 0), (145, 0), (158, 0), (172, 0), (180, 0), (183, 0), (197, 0), (200, 0), (203, 0), (228, 0), (232, 0), (234, 0), (261, 0), (279, 0), (286, 0), (296, 0), (301, 0), (307, 0), (312, 0), (326, 0), (333, 0), (338, 0), (340, 0), (367, 0), (371, 0), (378, 0), (388, 0), (401, 0), (402, 0), (403, 0)]
def isAggD : TypeDesc → Bool
  | .struct _ | .array _ _ => true
  | _ => false
theorem ty_all : (List.range 416).all (fun t => match Tryz.prog.underlying t, Tryz.prog.info? t with
  | some d, some i => (match lkN szL t with | none => !isAggD d && Nat.beq i.size 1 | some k => Nat.beq k 0 || isAggD d && Nat.beq i.size k)
  | _, _ => false) = true := by decide +kernel
theorem isAgg_run {t : TypeId} {d : TypeDesc} (hu : Tryz.prog.underlying t = some d) (W : World) : (isAgg t).run Tryz.prog W = .ok (isAggD d) W := by
  unfold isAgg
  rw [Sem.run_bind, run_underlying hu W]
  cases d <;> rfl
theorem sizeOf_run {t : TypeId} {i : TypeInfo} (hi : Tryz.prog.info? t = some i) (W : World) : (sizeOf t).run Tryz.prog W = .ok i.size W := by
  simp [sizeOf, typeInfo, hi]
def IsSc (t : TypeId) : Prop := ∀ W, (isAgg t).run Tryz.prog W = .ok false W ∧ (sizeOf t).run Tryz.prog W = .ok 1 W
def IsAg (t : TypeId) (k : Nat) : Prop := ∀ W, (isAgg t).run Tryz.prog W = .ok true W ∧ (sizeOf t).run Tryz.prog W = .ok k W
theorem ty_case {t : TypeId} (ht : Nat.blt t 416 = true) : (lkN szL t = none → IsSc t) ∧ (∀ k, lkN szL t = some (k + 1) → IsAg t (k + 1)) := by
  have h := List.all_eq_true.1 ty_all t (List.mem_range.2 (by simpa [Nat.blt_eq] using ht))
  split at h
  · rename_i d i hd hi
    constructor
    · intro e
      rw [e] at h
      simp only [Bool.and_eq_true, Bool.not_eq_true'] at h
      exact fun W => ⟨by rw [isAgg_run hd, h.1], by rw [sizeOf_run hi, Nat.eq_of_beq_eq_true h.2]⟩
    · intro k e
      rw [e] at h
      simp only [Bool.or_eq_true, Bool.and_eq_true] at h
      rcases h with h | h
      · cases Nat.eq_of_beq_eq_true h
      · exact fun W => ⟨by rw [isAgg_run hd, h.1], by rw [sizeOf_run hi, Nat.eq_of_beq_eq_true h.2]⟩
  · cases h
theorem isSc {t : TypeId} (ht : Nat.blt t 416 = true) (h : lkN szL t = none) : IsSc t := (ty_case ht).1 h
theorem isAg {t : TypeId} {k : Nat} (ht : Nat.blt t 416 = true) (h : lkN szL t = some (k + 1)) : IsAg t (k + 1) := (ty_case ht).2 k h
/-- The structs' fields: where each begins. -/
def fdL : List (Nat × List Nat) := [(7, [0, 1, 2, 3]), (8, [0, 1, 2, 3]), (13, [0, 1]), (14, [0, 1]), (18, [0]), (19, [0]), (27, [0, 1, 2, 3, 4, 5, 6]), (28, [0, 1, 2, 3, 4, 5, 6]), (31, [0, 1, 2, 3]), (32, [0, 1, 2, 3]), (34, [0, 1, 2]), (35, [0, 1, 2]), (36, [0, 1, 2, 6, 7, 10, 11, 12]), (37, [0, 1, 2, 6, 7, 10, 11, 12]), (54, [0, 1]), (55, [0, 1]), (56, [0, 2]), (57, [0, 2]), (58, [0, 4]), (59, [0, 4]), (60, [0, 4, 5, 6, 7]), (61, [0, 4, 5, 6, 7]), (62, [0, 1, 2, 3, 7, 8]), (63, [0, 1, 2, 3, 7, 8]), (64, [0, 2]), (65, [0, 2]), (66, [0, 1, 4, 5, 9, 10]), (67, [0, 1, 4, 5, 9, 10]), (122, [0, 4]), (123, [0, 4]), (137, [0, 1]), (140, [0, 1, 2]), (141, [0, 1, 2]), (143, [0, 1, 4]), (144, [0, 1, 4]), (177, [0, 4, 5]), (178, [0, 4, 5]), (186, [0]), (187, [0]), (188, [0, 2, 3]), (189, [0, 2, 3]), (192, [0, 3, 4, 8]), (193, [0, 3, 4, 8]), (213, [0]), (214, [0]), (219, [0, 1]), (220, [0, 1]), (236, [0, 1]), (237, [0, 1]), (239, [0, 1, 2]), (240, [0, 1, 2]), (241, [0, 1, 2, 3, 7]), (242, [0, 1, 2, 3, 7]), (251, [0, 1, 2, 3, 4, 5]), (252, [0, 1, 2, 3, 4, 5]), (273, [0, 1, 2]), (282, [0]), (283, [0]), (291, [0, 1]), (292, [0, 1]), (298, [0, 1, 4, 8, 9, 10]), (299, [0, 1, 4, 8, 9, 10]), (303, [0, 1]), (304, [0, 1]), (359, [0, 2, 4]), (360, [0, 2, 4]), (365, [0, 1, 2]), (366, [0, 1, 2]), (399, [0, 1, 2, 3]), (400, [0, 1, 2, 3]), (411, [0, 1, 2, 3, 4, 5, 6, 7, 8, 9, 10]), (412, [0, 1, 2, 3, 4, 5, 6, 7, 8, 9, 10])]
def lkF : List (Nat × List Nat) → Nat → Nat → Option Nat
  | [], _, _ => none
  | (i, v) :: s, j, f => bif Nat.beq i j then v[f]? else lkF s j f
theorem fd_all : fdL.all (fun (t, v) => match Tryz.prog.underlying t with
    | some (.struct fs) => (fs.toList.map (·.offset)) == v && fs.toList.all (fun f => match Tryz.prog.info? f.type with | some i => Nat.blt 0 i.size | none => false)
    | _ => false) = true := by decide +kernel
theorem lkF_mem : ∀ {l : List (Nat × List Nat)} {t f o : Nat}, lkF l t f = some o → ∃ v, (t, v) ∈ l ∧ v[f]? = some o
  | (i, v) :: s, t, f, o, h => by
    simp only [lkF] at h
    cases hb : Nat.beq i t with
    | true => rw [hb] at h; have := Nat.eq_of_beq_eq_true hb; subst this; exact ⟨v, .head _, h⟩
    | false => rw [hb] at h; obtain ⟨u, hm, hu⟩ := lkF_mem h; exact ⟨u, .tail _ hm, hu⟩
theorem fieldAt_run {t r i f o : Nat} (h : lkF fdL t f = some o) (W : World) : (Instr.fieldAt t (.pointer (some ⟨r, i, none⟩)) f).run Tryz.prog W = .ok (.pointer (some ⟨r, i + o, none⟩)) W := by
  obtain ⟨v, hm, hv⟩ := lkF_mem h
  have hc := List.all_eq_true.1 fd_all _ hm
  simp only at hc
  split at hc
  · rename_i fs hu
    simp only [Bool.and_eq_true, beq_iff_eq] at hc
    obtain ⟨h1, h2⟩ := hc
    rw [← h1, List.getElem?_map] at hv
    obtain ⟨fd, hfd, rfl⟩ := Option.map_eq_some_iff.1 hv
    have hfd' : fs[f]? = some fd := by simpa using hfd
    have := List.all_eq_true.1 h2 fd (List.mem_of_getElem? hfd)
    split at this
    · rename_i inf hi
      have hz : inf.size ≠ 0 := Nat.ne_of_gt (by simpa [Nat.blt_eq] using this)
      simp [Instr.fieldAt, Sem.run_bind, run_underlying hu, hfd', Instr.sureAddr, fieldPlace, sizeOf_run hi, hz, Addr.add]
    · cases this
  · cases hc

/-! ### Cells -/
def nth : List Value → Nat → Option Value
  | [], _ => none
  | v :: _, 0 => some v
  | _ :: l, i + 1 => nth l i
theorem nth_eq : ∀ (l : List Value) (i : Nat), nth l i = l[i]?
  | [], _ => by simp [nth]
  | _ :: _, 0 => by simp [nth]
  | _ :: l, i + 1 => by simp [nth, nth_eq l i]
/-- k cells from i on. -/
def nths : List Value → Nat → Nat → Option (List Value)
  | _, _, 0 => some []
  | l, i, k + 1 => match nth l i, nths l (i + 1) k with
    | some v, some vs => some (v :: vs)
    | _, _ => none
theorem nths_at : ∀ (k : Nat) {l vs : List Value} {i : Nat}, nths l i k = some vs → vs.length = k ∧ ∀ j v, vs[j]? = some v → l[i + j]? = some v
  | 0, _, _, _, h => by simp only [nths, Option.some.injEq] at h; subst h; simp
  | k + 1, l, vs, i, h => by
    simp only [nths] at h
    split at h
    · rename_i v us h1 h2
      simp only [Option.some.injEq] at h
      subst h
      obtain ⟨h3, h4⟩ := nths_at k h2
      refine ⟨by simp [h3], fun j u hj => ?_⟩
      cases j with
      | zero => rw [nth_eq] at h1; simpa [h1] using hj
      | succ j => have := h4 j u (by simpa using hj); rwa [show i + (j + 1) = i + 1 + j by omega]
    · cases h
/-- The cells of a value. -/
def cellsL : Value → Option (List Value)
  | .agg ⟨l⟩ => some l
  | .tuple _ => none
  | v => some [v]
theorem cellsL_eq {v : Value} {vs : List Value} (h : cellsL v = some vs) : v.cells = vs.toArray := by
  cases v <;> simp only [cellsL, Option.some.injEq] at h <;> first | (subst h; simp [Value.cells]; done) | cases h
/-- Cells with others from i on. -/
def set1 : List Value → Nat → Value → Option (List Value)
  | [], _, _ => none
  | _ :: cs, 0, v => some (v :: cs)
  | c :: cs, i + 1, v => match set1 cs i v with
    | some l => some (c :: l)
    | none => none
theorem set1_eq : ∀ {cs : List Value} {i : Nat} {v : Value} {l : List Value}, set1 cs i v = some l → i < cs.length ∧ l = cs.set i v
  | [], _, _, _, h => by simp [set1] at h
  | _ :: cs, 0, v, l, h => by simp only [set1, Option.some.injEq] at h; subst h; simp
  | c :: cs, i + 1, v, l, h => by
    simp only [set1] at h
    split at h
    · rename_i l' h'
      simp only [Option.some.injEq] at h
      subst h
      obtain ⟨h1, rfl⟩ := set1_eq h'
      simp; omega
    · cases h
def setsL : List Value → Nat → List Value → Option (List Value)
  | cs, _, [] => some cs
  | cs, i, v :: vs => match set1 cs i v with
    | some l => setsL l (i + 1) vs
    | none => none
def one1 : Value → Bool
  | .agg _ | .tuple _ => false
  | _ => true
def all1 : List Value → Bool
  | [] => true
  | v :: vs => one1 v && all1 vs
theorem all1_mem : ∀ {vs : List Value}, all1 vs = true → ∀ v ∈ vs, v.oneCell' = true
  | [], _, _, h => by cases h
  | u :: vs, h, v, hm => by
    simp only [all1, Bool.and_eq_true] at h
    rcases List.mem_cons.1 hm with rfl | hm
    · have := h.1; cases v <;> first | rfl | cases this
    · exact all1_mem h.2 v hm
theorem setsL_eq : ∀ {vs : List Value} {cs : Array Value} {i : Nat} {l : List Value}, setsL cs.toList i vs = some l → (vs = [] ∨ i + vs.length ≤ cs.size) ∧ setsA cs i vs = l.toArray
  | [], cs, i, l, h => by simp only [setsL, Option.some.injEq] at h; subst h; exact ⟨.inl rfl, by simp [setsA]⟩
  | v :: vs, cs, i, l, h => by
    simp only [setsL] at h
    split at h
    · rename_i l' h'
      obtain ⟨h1, rfl⟩ := set1_eq h'
      rw [show cs.toList.set i v = (cs.setIfInBounds i v).toList by simp] at h
      obtain ⟨h2, h3⟩ := setsL_eq h
      refine ⟨.inr ?_, h3⟩
      rcases h2 with rfl | h2
      · simp at h1 ⊢; omega
      · simp at h2 ⊢; omega
    · cases h
theorem add0 (g i j : Nat) : (⟨g, i, none⟩ : Addr).add j = ⟨g, i + j, none⟩ := by unfold Addr.add; split <;> simp_all

theorem run_storeMany (r i : Nat) (bt : TypeId) : ∀ (vs : List Value) (j : Nat) (cur : Array Value) (W : World), Blk W r cur bt → (vs = [] ∨ i + j + vs.length ≤ cur.size) → all1 vs = true →
    (storeCells ⟨r, i, none⟩ vs j).run Tryz.prog W = .ok () (setMany W r (i + j) vs)
  | [], j, cur, W, _, _, _ => rfl
  | v :: vs, j, cur, W, hg, hl, h1 => by
    have hl' : i + j + (vs.length + 1) ≤ cur.size := by rcases hl with h | h; cases h; simpa using h
    simp only [all1, Bool.and_eq_true] at h1
    have hcell : W.cell? ⟨r, i + j, none⟩ = some cur[i + j] := by rw [hg.cell]; simp
    have hst : (store ((⟨r, i, none⟩ : Addr).add j) v).run Tryz.prog W = .ok () (W.setCell ⟨r, i + j, none⟩ v) := by
      rw [add0, run_store Tryz.prog W _ v _ (all1_mem (vs := [v]) (by simp [all1, h1.1]) v (by simp)), hcell]
      simp [hg.froz (i + j) (by omega)]
    have ih := run_storeMany r i bt vs (j + 1) (cur.setIfInBounds (i + j) v) (W.setCell ⟨r, i + j, none⟩ v) (hg.set _ _) (.inr (by simp; omega)) h1.2
    simp only [storeCells, Sem.run_bind, hst, Result.andThen_ok, ih, setMany]
    rfl

/-! ### The steps that a walk is made of -/
section
variable {w0 : World} {n : Nat} {Q : AQ} {s : Sl} {h : List Bx} {rest : List CO} {g : Option (Option Tmp × Bool)} {d : Nat} {ty t : TypeId} {x y : Operand} {dd : Option Tmp}
theorem y_field {f r i o : Nat} (hx : ev s x = some (.pointer (some ⟨r, i, none⟩))) (hf : lkF fdL t f = some o) (hw : Wan s g true) :
    Y Tryz.prog w0 n s h ⟨dd, .fieldAddr t x f, ty, g⟩ (.pointer (some ⟨r, i + o, none⟩)) :=
  y_yield hw (fun tm W hk _ => by
    simp only [execOp, CO.oper, ev_ok (ds := []) hk hx, Sem.run_bind, fieldAt_run hf]; rfl)
theorem loadAt_eq (a : Addr) : Instr.loadAt t (.pointer (some a)) = loadVar t a := rfl
theorem y_load {r i : Nat} {cs : Array Value} {bt : TypeId} {v : Value} (hx : ev s x = some (.pointer (some ⟨r, i, none⟩))) (hm : (⟨r, cs, bt⟩ : Bx) ∈ h) (ht : Nat.blt t 416 = true) (hs : lkN szL t = none)
    (hv : nth cs.toList i = some v) (hw : Wan s g true) :
    Y Tryz.prog w0 n s h ⟨dd, .load t x, ty, g⟩ (v) :=
  y_yield hw (fun tm W hk hi => by
    have hc : W.cell? ⟨r, i, none⟩ = some v := by rw [hi.cell _ hm]; rw [nth_eq] at hv; simpa using hv
    have hl : (loadVar t ⟨r, i, none⟩).run Tryz.prog W = .ok v W := by
      unfold loadVar
      rw [Sem.run_bind, (isSc ht hs W).1]
      simp [hc]
    simp only [execOp, CO.oper, ev_ok (ds := []) hk hx, loadAt_eq, Sem.run_bind, hl]; rfl)
theorem y_loadA {r i k : Nat} {cs : Array Value} {bt : TypeId} {vs : List Value} (hx : ev s x = some (.pointer (some ⟨r, i, none⟩))) (hm : (⟨r, cs, bt⟩ : Bx) ∈ h) (ht : Nat.blt t 416 = true) (hs : lkN szL t = some (k + 1))
    (hv : nths cs.toList i (k + 1) = some vs) (hw : Wan s g true) :
    Y Tryz.prog w0 n s h ⟨dd, .load t x, ty, g⟩ (.agg vs.toArray) :=
  y_yield hw (fun tm W hk hi => by
    obtain ⟨h1, h2⟩ := nths_at _ hv
    have hl : (loadVar t ⟨r, i, none⟩).run Tryz.prog W = .ok (.agg vs.toArray) W := by
      have hcs := run_loadCells_list (P := Tryz.prog) W ⟨r, i, none⟩ vs (fun j v hj => by rw [add0, hi.cell _ hm]; simpa using h2 j v hj)
      unfold loadVar
      rw [Sem.run_bind, (isAg ht hs W).1]
      simp [Sem.run_bind, (isAg ht hs W).2, ← h1, hcs]
    simp only [execOp, CO.oper, ev_ok (ds := []) hk hx, loadAt_eq, Sem.run_bind, hl]; rfl)
theorem ac_box {v : Value} {vs : List Value} (hx : ev s x = some v) (hv : cellsL v = some vs) (hw : Wan s g true) (hd : Nat.blt d n = true)
    (H : ∀ r, AC Tryz.prog w0 n Q rest ((d, .pointer (some ⟨r, 0, none⟩)) :: s) (⟨r, vs.toArray, t⟩ :: h)) : AC Tryz.prog w0 n Q (⟨some d, .box t x, ty, g⟩ :: rest) s h := fun D tm W hk hi => .inr ⟨hw n tm hk, by
    have e : (execOp (Act.eval ⟨tm, []⟩) (CO.oper ⟨some d, .box t x, ty, g⟩)).run Tryz.prog W = .ok (.value (.pointer (some ⟨W.heap.size, 0, none⟩))) (W.alloc (.cells vs.toArray t)) := by
      simp only [execOp, CO.oper, ev_ok (ds := []) hk hx, Instr.box, newVar, newRow, cellsL_eq hv, Sem.run_bind, run_newObj_alloc]; rfl
    simp only [Oper.wp, ev_defers tm D, e, Oper.upon]
    rw [show (CO.oper ⟨some d, .box t x, ty, g⟩).dst = some d from rfl, put_eq]; exact ⟨rfl, _, _, hk.put hd, hi.alloc _ _, H _⟩⟩
theorem y_extract {vs : Array Value} {k : Nat} {v : Value} (hx : ev s x = some (.tuple vs)) (hv : nth vs.toList k = some v) (hw : Wan s g true) :
    Y Tryz.prog w0 n s h ⟨dd, .extract x k, ty, g⟩ (v) :=
  y_yield hw (fun tm W hk _ => by
    rw [nth_eq] at hv
    simp only [Array.getElem?_toList] at hv
    simp only [execOp, CO.oper, ev_ok (ds := []) hk hx, Instr.extract, hv]; rfl)
theorem y_not {b : Bool} (hx : ev s x = some (.bool b)) (hw : Wan s g true) :
    Y Tryz.prog w0 n s h ⟨dd, .unOp .not t x, ty, g⟩ (.bool !b) :=
  y_yield hw (fun tm W hk _ => by
    rw [show execOp (Act.eval ⟨tm, []⟩) (CO.oper ⟨dd, .unOp .not t x, ty, g⟩) = (do pure (.value (← Op.unary .not (Act.eval ⟨tm, []⟩ x)))) from rfl, ev_ok (ds := []) hk hx]; rfl)
/-- Two whole numbers of one kind. -/
def bi (op : BinOp) (k : IntKind) (a b : Int) : Option Value :=
  match op with
  | .add => some (.int k (k.wrap (a + b)))
  | .sub => some (.int k (k.wrap (a - b)))
  | .mul => some (.int k (k.wrap (a * b)))
  | .eql => some (.bool (a == b))
  | .neq => some (.bool (a != b))
  | .lss => some (.bool (a < b))
  | .leq => some (.bool (a ≤ b))
  | .gtr => some (.bool (a > b))
  | .geq => some (.bool (a ≥ b))
  | _ => none
theorem y_bin {op : BinOp} {k : IntKind} {a b : Int} {yt : TypeId} {v : Value} (hx : ev s x = some (.int k a)) (hy : ev s y = some (.int k b)) (hv : bi op k a b = some v) (hw : Wan s g true) :
    Y Tryz.prog w0 n s h ⟨dd, .binOp op t x y yt, ty, g⟩ (v) :=
  y_yield hw (fun tm W hk _ => by
    simp only [execOp, CO.oper, ev_ok (ds := []) hk hx, ev_ok (ds := []) hk hy]
    cases op <;> simp only [bi, Option.some.injEq, reduceCtorEq] at hv <;> subst hv <;> simp only [eqGuard, binOp, Op.intArith, Op.intCmp, ne_eq, not_true_eq_false, if_false, Bool.not_true, Bool.not_false, Bool.or_true, Bool.false_eq_true, Bool.or_false, if_true, Bool.or_self, reduceIte] <;> rfl)
theorem ac_storeC {r i : Nat} {cs : Array Value} {bt : TypeId} {v : Value} {vs cs' : List Value} {h' : List Bx} (hx : ev s x = some (.pointer (some ⟨r, i, none⟩))) (hy : ev s y = some v) (hc : cellsL v = some vs)
    (hup : Upd r bt cs cs'.toArray h h') (ht : Nat.blt t 416 = true) (hs : (match lkN szL t with | none => 1 | some k => k) = vs.length) (h0 : vs.isEmpty = false) (h1 : all1 vs = true) (hv : setsL cs.toList i vs = some cs') (hw : Wan s g true)
    (H : AC Tryz.prog w0 n Q rest s h') : AC Tryz.prog w0 n Q (⟨none, .store t x y, ty, g⟩ :: rest) s h := fun D tm W hk hi => .inr ⟨hw n tm hk, by
    obtain ⟨p, q, rfl, rfl⟩ := hup.split
    have hm : (⟨r, cs, bt⟩ : Bx) ∈ p ++ ⟨r, cs, bt⟩ :: q := by simp
    obtain ⟨h2, h3⟩ := setsL_eq hv
    have hsz : (sizeOf t).run Tryz.prog W = .ok vs.length W := by
      cases hk : lkN szL t with
      | none => rw [hk] at hs; rw [(isSc ht hk W).2]; simp only at hs; rw [hs]
      | some k =>
        rw [hk] at hs; simp only at hs
        cases k with
        | zero => exact absurd h0 (by rw [List.length_eq_zero_iff.1 hs.symm]; exact Bool.noConfusion)
        | succ k => rw [(isAg ht hk W).2, hs]
    have e0 := run_storeMany r i bt vs 0 cs W (hi.own _ hm) (by simpa using h2) h1
    have e : (execOp (Act.eval ⟨tm, []⟩) (CO.oper ⟨none, .store t x y, ty, g⟩)).run Tryz.prog W = .ok .skip (setMany W r i vs) := by
      simp only [Nat.add_zero] at e0
      simp only [execOp, CO.oper, ev_ok (ds := []) hk hx, ev_ok (ds := []) hk hy, Instr.storeAt, Instr.sureAddr, pure_bind, storeVar, cellsL_eq hc, Sem.run_bind, hsz]
      simp [e0, Sem.run_bind]
    simp only [Oper.wp, ev_defers tm D, e, Oper.upon]
    exact ⟨rfl, s, _, hk, h3 ▸ hi.sets vs i, H⟩⟩
/-- What a result reads as. -/
inductive RV (s : Sl) (h : List Bx) : ResultVar → Value → Prop
  | tmp {k : Nat} {v : Value} (hx : lk s k = some v) : RV s h (.tmp k) v
  | cell {k t r i : Nat} {cs : Array Value} {bt : TypeId} {v : Value} (hx : lk s k = some (.pointer (some ⟨r, i, none⟩))) (hm : (⟨r, cs, bt⟩ : Bx) ∈ h) (ht : Nat.blt t 416 = true) (hs : lkN szL t = none)
      (hv : nth cs.toList i = some v) : RV s h (.cell k t) v
  | cellA {k t r i m : Nat} {cs : Array Value} {bt : TypeId} {vs : List Value} (hx : lk s k = some (.pointer (some ⟨r, i, none⟩))) (hm : (⟨r, cs, bt⟩ : Bx) ∈ h) (ht : Nat.blt t 416 = true) (hs : lkN szL t = some (m + 1))
      (hv : nths cs.toList i (m + 1) = some vs) : RV s h (.cell k t) (.agg vs.toArray)
inductive RVs (s : Sl) (h : List Bx) : List ResultVar → List Value → Prop
  | nil : RVs s h [] []
  | cons {r : ResultVar} {rs : List ResultVar} {v : Value} {vs : List Value} (h1 : RV s h r v) (h2 : RVs s h rs vs) : RVs s h (r :: rs) (v :: vs)
def resOf (tm : Array Value) : ResultVar → Sem Value
  | .tmp t => pure (tm.getD t undef)
  | .cell a t => do loadVar t (← asAddr (tm.getD a undef))
theorem RV.run {tm : Array Value} {W : World} {r : ResultVar} {v : Value} (H : RV s h r v) (hk : Knows n s tm) (hi : Inv w0 h W) : (resOf tm r).run Tryz.prog W = .ok v W := by
  cases H with
  | tmp hx => simp [resOf, Array.getD_eq_getD_getElem?, hk.2 _ _ hx]
  | @cell k t r i cs bt v hx hm ht hs hv =>
    have hc : W.cell? ⟨r, i, none⟩ = some v := by rw [hi.cell _ hm]; rw [nth_eq] at hv; simpa using hv
    simp only [resOf, Array.getD_eq_getD_getElem?, hk.2 _ _ hx, Option.getD_some, asAddr, pure_bind]
    unfold loadVar
    rw [Sem.run_bind, (isSc ht hs W).1]
    simp [hc]
  | @cellA k t r i m cs bt vs hx hm ht hs hv =>
    obtain ⟨h1, h2⟩ := nths_at _ hv
    have hcs := run_loadCells_list (P := Tryz.prog) W ⟨r, i, none⟩ vs (fun j v hj => by rw [add0, hi.cell _ hm]; simpa using h2 j v hj)
    simp only [resOf, Array.getD_eq_getD_getElem?, hk.2 _ _ hx, Option.getD_some, asAddr, pure_bind]
    unfold loadVar
    rw [Sem.run_bind, (isAg ht hs W).1]
    simp [Sem.run_bind, (isAg ht hs W).2, ← h1, hcs]
theorem RVs.run {tm : Array Value} {W : World} {rs : List ResultVar} {vs : List Value} (H : RVs s h rs vs) (hk : Knows n s tm) (hi : Inv w0 h W) : (rs.mapM (resOf tm)).run Tryz.prog W = .ok vs W := by
  induction H with
  | nil => rfl
  | cons h1 _ ih => simp [List.mapM_cons, Sem.run_bind, h1.run hk hi, ih]
theorem results_eq (fn : Func) (tm : Array Value) : results fn tm = (do let vs ← fn.results.mapM (resOf tm); pure (if h : vs.size = 1 then vs[0] else .tuple vs)) := by
  unfold results
  congr 2
theorem ends_run {fn : Func} {rs : List ResultVar} {vs : List Value} (hr : fn.results = rs.toArray) (H : RVs s h rs vs) (v : Value) (hv : (if h : vs.toArray.size = 1 then vs.toArray[0] else .tuple vs.toArray) = v) {tm : Array Value} {W : World} (hk : Knows n s tm) (hi : Inv w0 h W) :
    (results fn tm).run Tryz.prog W = .ok v W := by
  rw [results_eq, hr, Sem.run_bind, List.mapM_toArray]
  simp [Sem.run_bind, H.run hk hi]
  simpa using hv
theorem ends1 {fn : Func} {r : ResultVar} {v : Value} {Φ : Value → List Bx → Prop} {e : Exit} {h' : List Bx} (he : e = .ret ∨ e = .normal) (hr : fn.results = #[r]) (H : RV s h r v) (hs : h'.Sublist h) (hΦ : Φ v h') : Ends Tryz.prog w0 n fn Φ e s h :=
  ⟨he, v, h', fun _ _ hk hi => ⟨ends_run (rs := [r]) hr (.cons H .nil) v (by simp) hk hi, hi.sub hs⟩, hΦ⟩
theorem endsN {fn : Func} {rs : List ResultVar} {vs : List Value} {Φ : Value → List Bx → Prop} {e : Exit} {h' : List Bx} (he : e = .ret ∨ e = .normal) (hr : fn.results = rs.toArray) (H : RVs s h rs vs) (hl : Nat.beq vs.length 1 = false) (hs : h'.Sublist h) (hΦ : Φ (.tuple vs.toArray) h') : Ends Tryz.prog w0 n fn Φ e s h :=
  ⟨he, _, h', fun _ _ hk hi => ⟨ends_run hr H (.tuple vs.toArray) (by
    have := Nat.ne_of_beq_eq_false hl
    rw [dif_neg (by simpa using this)]) hk hi, hi.sub hs⟩, hΦ⟩
end
end Go.Proofs.YtpmjbobgglgnaaaGreatDoor
