/- Closed calls that the kernel carries out: operations that turn nothing. -/
import Derived.Test.YtpmjbobgglgnaaaGreatDoorE3
namespace Go.Proofs.YtpmjbobgglgnaaaGreatDoor
noncomputable section
open Go.RowKit
set_option linter.unusedVariables false
set_option linter.unusedSimpArgs false
def arL : List (Nat × Nat × Nat) := [(121, 2, 1), (277, 8, 1), (285, 5, 1), (394, 20, 1), (395, 50, 1)]
theorem ar_all : arL.all (fun (t, n, k) => match Tryz.prog.underlying t with
    | some (.array n' e) => (match Tryz.prog.info? e with | some i => Nat.beq n' n && Nat.beq i.size k && Nat.blt 0 k && Nat.blt 1 n | none => false)
    | _ => false) = true := by decide +kernel
def ftL : List (Nat × List (Nat × Nat)) := [(7, [(0, 2), (1, 3), (2, 4), (3, 6)]), (8, [(0, 2), (1, 3), (2, 4), (3, 6)]), (13, [(0, 9), (1, 12)]), (14, [(0, 9), (1, 12)]), (18, [(0, 17)]), (19, [(0, 17)]), (27, [(0, 3), (1, 22), (2, 23), (3, 24), (4, 25), (5, 26), (6, 3)]), (28, [(0, 3), (1, 22), (2, 23), (3, 24), (4, 25), (5, 26), (6, 3)]), (31, [(0, 3), (1, 3), (2, 3), (3, 3)]), (32, [(0, 3), (1, 3), (2, 3), (3, 3)]), (34, [(0, 33), (1, 33), (2, 33)]), (35, [(0, 33), (1, 33), (2, 33)]), (36, [(0, 5), (1, 3), (2, 32), (6, 9), (7, 35), (10, 5), (11, 33), (12, 3)]), (37, [(0, 5), (1, 3), (2, 32), (6, 9), (7, 35), (10, 5), (11, 33), (12, 3)]), (54, [(0, 3), (1, 3)]), (55, [(0, 3), (1, 3)]), (56, [(0, 55), (2, 9)]), (57, [(0, 55), (2, 9)]), (58, [(0, 32), (4, 35)]), (59, [(0, 32), (4, 35)]), (60, [(0, 32), (4, 5), (5, 33), (6, 3), (7, 4)]), (61, [(0, 32), (4, 5), (5, 33), (6, 3), (7, 4)]), (62, [(0, 3), (1, 3), (2, 5), (3, 32), (7, 4), (8, 33)]), (63, [(0, 3), (1, 3), (2, 5), (3, 32), (7, 4), (8, 33)]), (64, [(0, 55), (2, 3)]), (65, [(0, 55), (2, 3)]), (66, [(0, 3), (1, 65), (4, 5), (5, 32), (9, 3), (10, 33)]), (67, [(0, 3), (1, 65), (4, 5), (5, 32), (9, 3), (10, 33)]), (122, [(0, 32), (4, 121)]), (123, [(0, 32), (4, 121)]), (137, [(0, 5), (1, 43)]), (140, [(0, 5), (1, 2), (2, 9)]), (141, [(0, 5), (1, 2), (2, 9)]), (143, [(0, 4), (1, 141), (4, 142)]), (144, [(0, 4), (1, 141), (4, 142)]), (177, [(0, 32), (4, 3), (5, 5)]), (178, [(0, 32), (4, 3), (5, 5)]), (186, [(0, 185)]), (187, [(0, 185)]), (188, [(0, 55), (2, 142), (3, 175)]), (189, [(0, 55), (2, 142), (3, 175)]), (192, [(0, 65), (3, 5), (4, 32), (8, 3)]), (193, [(0, 65), (3, 5), (4, 32), (8, 3)]), (213, [(0, 212)]), (214, [(0, 212)]), (219, [(0, 142), (1, 175)]), (220, [(0, 142), (1, 175)]), (236, [(0, 3), (1, 39)]), (237, [(0, 3), (1, 39)]), (239, [(0, 233), (1, 3), (2, 142)]), (240, [(0, 233), (1, 3), (2, 142)]), (241, [(0, 5), (1, 2), (2, 9), (3, 32), (7, 3)]), (242, [(0, 5), (1, 2), (2, 9), (3, 32), (7, 3)]), (251, [(0, 9), (1, 233), (2, 3), (3, 142), (4, 3), (5, 39)]), (252, [(0, 9), (1, 233), (2, 3), (3, 142), (4, 3), (5, 39)]), (273, [(0, 5), (1, 2), (2, 9)]), (282, [(0, 9)]), (283, [(0, 9)]), (291, [(0, 33), (1, 33)]), (292, [(0, 33), (1, 33)]), (298, [(0, 5), (1, 141), (4, 32), (8, 2), (9, 5), (10, 3)]), (299, [(0, 5), (1, 141), (4, 32), (8, 2), (9, 5), (10, 3)]), (303, [(0, 3), (1, 3)]), (304, [(0, 3), (1, 3)]), (359, [(0, 121), (2, 121), (4, 4)]), (360, [(0, 121), (2, 121), (4, 4)]), (365, [(0, 3), (1, 3), (2, 4)]), (366, [(0, 3), (1, 3), (2, 4)]), (399, [(0, 17), (1, 17), (2, 17), (3, 9)]), (400, [(0, 17), (1, 17), (2, 17), (3, 9)]), (402, [(0, 401)]), (403, [(0, 401)]), (411, [(0, 12), (1, 12), (2, 315), (3, 405), (4, 5), (5, 5), (6, 406), (7, 407), (8, 408), (9, 409), (10, 410)]), (412, [(0, 12), (1, 12), (2, 315), (3, 405), (4, 5), (5, 5), (6, 406), (7, 407), (8, 408), (9, 409), (10, 410)])]
theorem ft_all : ftL.all (fun (t, l) => match Tryz.prog.underlying t with
    | some (.struct fs) => (fs.toList.map fun f => (f.offset, f.type)) == l
    | _ => false) = true := by decide +kernel
def arT : TB (Nat × Nat) := TB.ofL arL
def ftT : TB (List (Nat × Nat)) := TB.ofL ftL
theorem lkG_mem {α : Type} : ∀ {l : List (Nat × α)} {t : Nat} {k : α}, lkG l t = some k → (t, k) ∈ l
  | (i, v) :: s, t, k, h => by
    simp only [lkG] at h
    cases hb : Nat.beq i t with
    | true => rw [hb] at h; simp only [cond_true, Option.some.injEq] at h; rw [Nat.beq_eq] at hb; subst hb h; exact List.mem_cons_self
    | false => rw [hb] at h; exact List.mem_cons_of_mem _ (lkG_mem h)
theorem ar_ty {t n k : Nat} (h : arT.at t = some (n, k)) : ∃ e i, Tryz.prog.underlying t = some (.array n e) ∧ Tryz.prog.info? e = some i ∧ i.size = k ∧ 1 < n := by
  have h1 : lkG arL t = some (n, k) := by rw [← TB.at_ofL t (by decide +kernel)]; exact h
  have hc := List.all_eq_true.1 ar_all _ (lkG_mem h1)
  simp only at hc
  split at hc
  · rename_i n' e hu
    split at hc
    · rename_i i hi
      simp only [Bool.and_eq_true, Nat.beq_eq, Nat.blt_eq] at hc
      exact ⟨e, i, by rw [hu, hc.1.1.1], hi, hc.1.1.2, hc.2⟩
    · cases hc
  · cases hc
theorem ft_ty {t : Nat} {l : List (Nat × Nat)} (h : ftT.at t = some l) : ∃ fs : Array Field, Tryz.prog.underlying t = some (.struct fs) ∧ (fs.toList.map fun f => (f.offset, f.type)) = l := by
  have h1 : lkG ftL t = some l := by rw [← TB.at_ofL t (by decide +kernel)]; exact h
  have hc := List.all_eq_true.1 ft_all _ (lkG_mem h1)
  simp only at hc
  split at hc
  · rename_i fs hu
    exact ⟨fs, hu, by simpa using hc⟩
  · cases hc
section
variable {w0 : World} {n : Nat} {t : Tr} {H : AH} {ρ : Rho} {s : Sl} {hf : List Bx} {o : Option Tmp} {g : Option (Option Tmp × Bool)} {ty tt tu : TypeId} {x y : Operand} {v : AV}
/-- What an operation that is calm stands for. -/
def YS (w0 : World) (t : Tr) (H : AH) (op : Op) (ty : TypeId) (v : AV) : Prop := ∀ (ρ : Rho) (n : Nat) (s : Sl) (hf : List Bx) (o : Option Tmp) (g : Option (Option Tmp × Bool)), Kn ρ t s → Gr ρ H → Wan s g true → Y Tryz.prog w0 n s (hl ρ H ++ hf) ⟨o, op, ty, g⟩ (sh ρ v)
theorem bx_mem {k : Nat} {b : Bk} (h : AHfind H k = some b) : (⟨(ρ k).g, (shL ρ b.cs ++ (if b.gr.isSome then (ρ k).tl else [])).toArray, b.ty⟩ : Bx) ∈ hl ρ H ++ hf :=
  List.mem_append_left _ (hl_mem (find_mem h))
def loadV (H : AH) (tt : TypeId) (k i : Nat) : Option AV :=
  bif Nat.blt tt 416 then match AHfind H k with
    | some b => match szT.at tt with
      | none => nthV b.cs i
      | some 0 => none
      | some (q + 1) => match nthsV b.cs i (q + 1) with
        | some l => some (.agg l)
        | none => none
    | none => none
  else none
/-- The words of the errors: a global, as it was laid. -/
def wordsV : List AV := [.str [], .str [35, 68, 73, 86, 47, 48, 33], .str [35, 86, 65, 76, 85, 69, 33], .str [35, 78, 85, 77, 33], .str [35, 78, 47, 65], .str [35, 82, 69, 70, 33], .str [35, 67, 89, 67, 76, 69, 33], .str [35, 68, 69, 78, 73, 69, 68]]
structure Words (w0 : World) : Prop where
  lt : 0 < w0.heap.size
  cell : ∀ j v, (wordsV.map (sh fun _ => ⟨0, 0, [], none⟩))[j]? = some v → w0.cell? ⟨0, j, none⟩ = some v
def yLoad (t : Tr) (H : AH) (tt : TypeId) (x : Operand) : Option AV :=
  match evA t x with
  | some (.ptr k i) => loadV H tt k i
  | some (.glob g i) => bif Nat.beq g 0 && Nat.beq tt 277 && Nat.beq i 0 then some (.agg wordsV) else bif Nat.beq g 0 && Nat.beq tt 9 then nthV wordsV i else none
  | _ => none
theorem yLoad_ok (hW : Words w0) (h : yLoad t H tt x = some v) : YS w0 t H (.load tt x) ty v := by
  intro ρ n s hf o g hk hg hw
  unfold yLoad at h
  split at h
  · rename_i k i hx
    have hx' := evA_ok hk hx
    simp only [sh] at hx'
    unfold loadV at h
    cases hb : Nat.blt tt 416 with
    | false => rw [hb] at h; cases h
    | true =>
      rw [hb] at h; simp only [cond_true] at h
      split at h
      · rename_i b hfnd
        have hm := bx_mem (ρ := ρ) (hf := hf) hfnd
        split at h
        · rename_i hs
          exact y_load hx' hm hb (by rw [← szT_ok]; exact hs) (by rw [nth_eq]; exact nthV_ok _ h) hw
        · cases h
        · rename_i q hs
          split at h
          · rename_i l hl
            simp only [Option.some.injEq] at h; subst h
            rw [show sh ρ (.agg l) = .agg (shL ρ l).toArray from by simp [sh]]
            exact y_loadA hx' hm hb (by rw [← szT_ok]; exact hs) (nthsV_ok _ hl) hw
          · cases h
      · cases h
  · rename_i gg gi hx
    have hcell : ∀ (W : World), Inv w0 (hl ρ H ++ hf) W → ∀ j v, (shL ρ wordsV)[j]? = some v → W.cell? ⟨0, j, none⟩ = some v := fun W hi j v hj => by
      have e1 := hW.cell j v (by rw [← hj]; rw [shL_map]; simp [wordsV, sh])
      rw [← e1]
      exact hi.below.cell (p := ⟨0, j, none⟩) hW.lt
    cases hb : (Nat.beq gg 0 && Nat.beq tt 277 && Nat.beq gi 0) with
    | false =>
      rw [hb] at h; simp only [cond_false] at h
      cases hb2 : (Nat.beq gg 0 && Nat.beq tt 9) with
      | false => rw [hb2] at h; cases h
      | true =>
        rw [hb2] at h; simp only [cond_true] at h
        simp only [Bool.and_eq_true, Nat.beq_eq] at hb2
        obtain ⟨rfl, rfl⟩ := hb2
        have hx' := evA_ok hk hx
        simp only [sh] at hx'
        have hv := nthV_ok (ρ := ρ) [] h
        rw [List.append_nil] at hv
        refine y_yield hw (fun tm W hkn hi => ?_)
        have hc := hcell W hi gi _ hv
        have hl : (loadVar 9 ⟨0, gi, none⟩).run Tryz.prog W = .ok (sh ρ v) W := by
          unfold loadVar
          rw [Sem.run_bind, (isSc rfl (by decide +kernel) W).1]
          simp [hc]
        simp only [execOp, CO.oper, ev_ok (ds := []) hkn hx', loadAt_eq, Sem.run_bind, hl]; rfl
    | true =>
      rw [hb] at h; simp only [cond_true, Option.some.injEq] at h; subst h
      simp only [Bool.and_eq_true, Nat.beq_eq] at hb
      obtain ⟨⟨rfl, rfl⟩, rfl⟩ := hb
      have hx' := evA_ok hk hx
      simp only [sh] at hx'
      have hsz : lkN szL 277 = some (7 + 1) := by decide +kernel
      refine y_yield hw (fun tm W hkn hi => ?_)
      have hcs : ∀ j v, (shL ρ wordsV)[j]? = some v → W.cell? ((⟨0, 0, none⟩ : Addr).add j) = some v := fun j v hj => by
        rw [add0, Nat.zero_add]
        exact hcell W hi j v hj
      have hcs' := run_loadCells_list (P := Tryz.prog) W ⟨0, 0, none⟩ (shL ρ wordsV) hcs
      have hl : (loadVar 277 ⟨0, 0, none⟩).run Tryz.prog W = .ok (.agg (shL ρ wordsV).toArray) W := by
        unfold loadVar
        rw [Sem.run_bind, (isAg rfl hsz W).1]
        have h8 : (shL ρ wordsV).length = 7 + 1 := by rw [shL_len]; rfl
        rw [h8] at hcs'
        simp [Sem.run_bind, (isAg rfl hsz W).2, hcs']
      simp only [execOp, CO.oper, ev_ok (ds := []) hkn hx', loadAt_eq, Sem.run_bind, hl, sh]; rfl
  · cases h
def yField (t : Tr) (tt : TypeId) (x : Operand) (f : Nat) : Option AV :=
  match evA t x, fdT.at tt with
  | some (.ptr k i), some l => match l[f]? with
    | some d => some (.ptr k (i + d))
    | none => none
  | _, _ => none
theorem yField_ok {f : Nat} (h : yField t tt x f = some v) : YS w0 t H (.fieldAddr tt x f) ty v := by
  intro ρ n s hf o g hk hg hw
  unfold yField at h
  split at h
  · rename_i k i l hx hl
    split at h
    · rename_i d hd
      simp only [Option.some.injEq] at h; subst h
      have hx' := evA_ok hk hx
      simp only [sh] at hx' ⊢
      exact y_field hx' (fdT_ok hl hd) hw
    · cases h
  · cases h
def yExtract (t : Tr) (x : Operand) (k : Nat) : Option AV :=
  match evA t x with
  | some (.tup vs) => nthV vs k
  | _ => none
theorem yExtract_ok {k : Nat} (h : yExtract t x k = some v) : YS w0 t H (.extract x k) ty v := by
  intro ρ n s hf o g hk hg hw
  unfold yExtract at h
  split at h
  · rename_i vs hx
    have hx' := evA_ok hk hx
    simp only [sh] at hx'
    refine y_extract hx' ?_ hw
    rw [nth_eq]; simpa using nthV_ok (ρ := ρ) [] h
  · cases h
def partV (tt : TypeId) (cs : List AV) (i : Nat) : Option AV :=
  bif Nat.blt tt 416 then match szT.at tt with
    | none => nthV cs i
    | some 0 => none
    | some (q + 1) => match nthsV cs i (q + 1) with
      | some l => some (.agg l)
      | none => none
  else none
theorem partV_ok {cs : List AV} {i : Nat} (h : partV tt cs i = some v) (W : World) : (part tt (shL ρ cs).toArray i).run Tryz.prog W = .ok (sh ρ v) W := by
  unfold partV at h
  cases hb : Nat.blt tt 416 with
  | false => rw [hb] at h; cases h
  | true =>
    rw [hb] at h; simp only [cond_true] at h
    split at h
    · rename_i hs
      have hs' : lkN szL tt = none := by rw [← szT_ok]; exact hs
      have hv := nthV_ok (ρ := ρ) [] h
      rw [List.append_nil] at hv
      unfold part
      rw [Sem.run_bind, (isSc hb hs' W).1]
      simp [hv]
    · cases h
    · rename_i q hs
      have hs' : lkN szL tt = some (q + 1) := by rw [← szT_ok]; exact hs
      split at h
      · rename_i l hl
        simp only [Option.some.injEq] at h; subst h
        unfold part
        rw [Sem.run_bind, (isAg hb hs' W).1]
        obtain ⟨h1, h2⟩ := nthsV_at (ρ := ρ) [] hl
        have e : List.take (q + 1) (List.drop i (shL ρ cs)) = shL ρ l := by
          apply List.ext_getElem?
          intro j
          by_cases hj : j < q + 1
          · have hx : j < (shL ρ l).length := by rw [shL_len, h1]; exact hj
            have := h2 j _ (List.getElem?_eq_getElem hx)
            rw [List.append_nil] at this
            rw [List.getElem?_take_of_lt hj, List.getElem?_drop, this, ← List.getElem?_eq_getElem hx]
          · rw [List.getElem?_eq_none (by simp; omega), List.getElem?_eq_none (by rw [shL_len, h1]; omega)]
        simp [Sem.run_bind, (isAg hb hs' W).2, sh, e]
      · cases h
  
def yFieldV (t : Tr) (tt : TypeId) (x : Operand) (f : Nat) : Option AV :=
  match evA t x, ftT.at tt with
  | some (.agg cs), some l => match l[f]? with
    | some (d, ft) => partV ft cs d
    | none => none
  | _, _ => none
theorem yFieldV_ok {f : Nat} (h : yFieldV t tt x f = some v) : YS w0 t H (.field tt x f) ty v := by
  intro ρ n s hf o g hk hg hw
  unfold yFieldV at h
  split at h
  · rename_i cs l hx hl
    split at h
    · rename_i d ft hd
      have hx' := evA_ok hk hx
      simp only [sh] at hx'
      obtain ⟨fs, hu, hfs⟩ := ft_ty hl
      rw [← hfs, List.getElem?_map] at hd
      cases hfd : fs.toList[f]? with
      | none => rw [hfd] at hd; cases hd
      | some fld =>
        rw [hfd] at hd
        simp only [Option.map_some, Option.some.injEq, Prod.mk.injEq] at hd
        obtain ⟨rfl, rfl⟩ := hd
        rw [Array.getElem?_toList] at hfd
        refine y_yield hw (fun tm W hkn hi => ?_)
        simp only [execOp, CO.oper, ev_ok (ds := []) hkn hx', Instr.field, Sem.run_bind, run_underlying hu, Result.andThen_ok, hfd]
        simp [asAgg, Sem.run_bind, partV_ok (ρ := ρ) h W]
    · cases h
  · cases h
end
end
end Go.Proofs.YtpmjbobgglgnaaaGreatDoor
