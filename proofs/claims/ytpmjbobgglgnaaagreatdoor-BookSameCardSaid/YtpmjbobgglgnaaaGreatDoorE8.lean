/- Closed calls that the kernel carries out: what makes memory, and what turns it. -/
import Derived.Test.YtpmjbobgglgnaaaGreatDoorE7
namespace Go.Proofs.YtpmjbobgglgnaaaGreatDoor
noncomputable section
open Go.RowKit
set_option linter.unusedVariables false
set_option linter.unusedSimpArgs false
def apL : List (Nat × Nat × Nat × Nat) := [(22, 57, 3, 32), (23, 59, 7, 56), (24, 61, 8, 64), (25, 63, 9, 72), (26, 67, 11, 88), (29, 37, 13, 112), (51, 55, 2, 16), (84, 9, 1, 16), (118, 33, 1, 8), (119, 123, 6, 48), (142, 299, 11, 96), (148, 137, 2, 16), (163, 121, 2, 16), (175, 178, 6, 48), (179, 3, 1, 8), (185, 189, 4, 64), (231, 226, 1, 8), (233, 242, 8, 72), (256, 32, 4, 32), (267, 5, 1, 1), (300, 304, 2, 16), (337, 2, 1, 8), (362, 366, 3, 24)]
theorem ap_all : apL.all (fun (t, e, k, by_) => match Tryz.prog.underlying t, Tryz.prog.info? e with
    | some (.slice e'), some i => Nat.beq e' e && Nat.beq i.size k && Nat.beq i.bytes by_ && Nat.blt 0 k && (match i.zero with | some z => Nat.beq z.cells.size k | none => false)
    | _, _ => false) = true := by decide +kernel
def apT : TB (Nat × Nat × Nat) := TB.ofL apL
structure ApT (t e k by_ : Nat) (i : TypeInfo) (z : Value) : Prop where
  u : Tryz.prog.underlying t = some (.slice e)
  hi : Tryz.prog.info? e = some i
  hz : i.zero = some z
  zk : z.cells.size = k
  ik : i.size = k
  hb : i.bytes = by_
  hk : 0 < k
theorem ap_ty {t e k b : Nat} (h : apT.at t = some (e, k, b)) : ∃ i z, ApT t e k b i z := by
  have h1 : lkG apL t = some (e, k, b) := by rw [← TB.at_ofL t (by decide +kernel)]; exact h
  have hc := List.all_eq_true.1 ap_all _ (lkG_mem h1)
  simp only at hc
  split at hc
  · rename_i e' i hu hi
    split at hc
    · rename_i z hz
      simp only [Bool.and_eq_true, Nat.beq_eq, Nat.blt_eq] at hc
      obtain ⟨⟨⟨⟨c1, c2⟩, c3⟩, c4⟩, c5⟩ := hc
      subst c1
      exact ⟨i, z, hu, hi, hz, c5, c2, c3, c4⟩
    · simp at hc
  · cases hc
def upd (ρ : Rho) (c : Nat) (r : RB) : Rho := fun k => if k = c then r else ρ k
theorem upd_agree (ρ : Rho) (c : Nat) (r : RB) : Agree c ρ (upd ρ c r) := fun k hk => by simp [upd, Nat.ne_of_lt hk]
theorem upd_at (ρ : Rho) (c : Nat) (r : RB) : upd ρ c r c = r := by simp [upd]
/-- What an operation that makes memory stands for. -/
def NS (t : Tr) (H : AH) (nx : Nat) (op : Op) (ty : TypeId) (v : AV) (H' : AH) (nx' : Nat) (w0 : World) : Prop := TBd nx t → HBd nx H → (nx ≤ nx' ∧ HBd nx' H') ∧
    ∀ (ρ : Rho) (n : Nat) (s : Sl) (hf : List Bx) (g : Option (Option Tmp × Bool)) (d : Nat) (rest : List CO) (Q : AQ), Kn ρ t s → Gr ρ H → Wan s g true → Nat.blt d n = true →
      (∀ ρ', Agree nx ρ ρ' → Gr ρ' H' → AC Tryz.prog w0 n Q rest ((d, sh ρ' v) :: s) (hl ρ' H' ++ hf)) → AC Tryz.prog w0 n Q (⟨some d, op, ty, g⟩ :: rest) s (hl ρ H ++ hf)
section
variable {w0 : World} {n : Nat} {t : Tr} {H H' : AH} {nx nx' : Nat} {ρ : Rho} {s : Sl} {h : List Bx} {hf : List Bx} {o : Option Tmp} {dd : Option Tmp} {g : Option (Option Tmp × Bool)} {ty tt tu : TypeId} {x y : Operand} {v : AV}
theorem HBd.cons {c : Nat} {b : Bk} (hH : HBd c H) (hb : bdL c b.cs = true) : HBd (c + 1) ((c, b) :: H) := fun k b' hm => by
  rcases List.mem_cons.1 hm with e | hm
  · cases e; exact ⟨Nat.lt_succ_self _, bdL_mono (Nat.le_succ _) _ hb⟩
  · exact ⟨Nat.lt_succ_of_lt (hH k b' hm).1, bdL_mono (Nat.le_succ _) _ (hH k b' hm).2⟩
theorem Gr.cons {r : RB} {c : Nat} {b : Bk} (hH : HBd c H) (hg : Gr ρ H) (hb : ∀ z, b.gr = some z → b.cs.length + r.tl.length = r.cap * z) : Gr (upd ρ c r) ((c, b) :: H) := fun k b' z hm hz => by
  rcases List.mem_cons.1 hm with e | hm
  · cases e; rw [upd_at]; exact hb z hz
  · exact hg.agree (upd_agree ρ c r) hH k b' z hm hz
theorem hl_new {r : RB} {c : Nat} {b : Bk} (hH : HBd c H) (hb : bdL c b.cs = true) : hl (upd ρ c r) ((c, b) :: H) = ⟨r.g, (shL ρ b.cs ++ (if b.gr.isSome then r.tl else [])).toArray, b.ty⟩ :: hl ρ H := by
  simp only [hl, bxOf, upd_at, shL_agree (upd_agree ρ c r) _ hb, hl_agree (upd_agree ρ c r) hH]
/-- A new block, of cells that are known. -/
def nAlloc (H : AH) (nx : Nat) (tt : TypeId) : Option (AV × AH × Nat) :=
  match zT.at tt with
  | some zs => match ofVs zs with
    | some cs => some (.ptr nx 0, (nx, ⟨cs, tt, none⟩) :: H, nx + 1)
    | none => none
  | none => none
theorem nAlloc_ok (h : nAlloc H nx tt = some (v, H', nx')) : NS t H nx (.alloc tt) ty v H' nx' w0 := by
  intro ht hH
  unfold nAlloc at h
  split at h
  · rename_i zs hz
    split at h
    · rename_i cs hcs
      simp only [Option.some.injEq, Prod.mk.injEq] at h
      obtain ⟨rfl, rfl, rfl⟩ := h
      have hb : bdL nx (⟨cs, tt, none⟩ : Bk).cs = true := ofVs_bd nx hcs
      refine ⟨⟨Nat.le_succ _, hH.cons hb⟩, fun ρ n s hf g d rest Q hk hg hw hd K => ?_⟩
      refine ac_alloc (by rw [← zT_ok]; exact hz) hw hd fun r => ?_
      have := K (upd ρ nx ⟨r, 0, [], none⟩) (upd_agree _ _ _) (hg.cons hH (by simp))
      rw [hl_new hH hb] at this
      simpa [sh, upd_at, ofVs_ok (ρ := ρ) hcs] using this
    · cases h
  · cases h
def nBox (t : Tr) (H : AH) (nx : Nat) (tt : TypeId) (x : Operand) : Option (AV × AH × Nat) :=
  match evA t x with
  | some a => match cellsV a with
    | some cs => some (.ptr nx 0, (nx, ⟨cs, tt, none⟩) :: H, nx + 1)
    | none => none
  | none => none
theorem cellsV_bd {c : Nat} {vs : List AV} (h : cellsV v = some vs) (hb : bd c v = true) : bdL c vs = true := by
  cases v <;> simp only [cellsV, Option.some.injEq, reduceCtorEq] at h <;> subst h <;> first | (simp only [bdL, Bool.and_true]; exact hb) | (simpa [bd] using hb)
theorem nBox_ok (h : nBox t H nx tt x = some (v, H', nx')) : NS t H nx (.box tt x) ty v H' nx' w0 := by
  intro ht hH
  unfold nBox at h
  split at h
  · rename_i a ha
    split at h
    · rename_i cs hcs
      simp only [Option.some.injEq, Prod.mk.injEq] at h
      obtain ⟨rfl, rfl, rfl⟩ := h
      have hb : bdL nx (⟨cs, tt, none⟩ : Bk).cs = true := cellsV_bd hcs (evA_bd ht ha)
      refine ⟨⟨Nat.le_succ _, hH.cons hb⟩, fun ρ n s hf g d rest Q hk hg hw hd K => ?_⟩
      refine ac_box (evA_ok hk ha) (cellsV_ok hcs) hw hd fun r => ?_
      have := K (upd ρ nx ⟨r, 0, [], none⟩) (upd_agree _ _ _) (hg.cons hH (by simp))
      rw [hl_new hH hb] at this
      simpa [sh, upd_at] using this
    · cases h
  · cases h
/-- Parts of a literal. -/
def evPA (t : Tr) : List (Nat × Operand) → Option (List (Nat × AV))
  | [] => some []
  | (i, x) :: os => match evA t x, evPA t os with
    | some v, some vs => some ((i, v) :: vs)
    | _, _ => none
def shP (ρ : Rho) : List (Nat × AV) → List (Nat × Value)
  | [] => []
  | (i, v) :: l => (i, sh ρ v) :: shP ρ l
theorem evPA_ok (hk : Kn ρ t s) : ∀ {os : List (Nat × Operand)} {pv : List (Nat × AV)}, evPA t os = some pv → evp s os = some (shP ρ pv)
  | [], _, h => by simp only [evPA, Option.some.injEq] at h; subst h; rfl
  | (i, x) :: os, _, h => by
    simp only [evPA] at h
    split at h
    · rename_i v vs h1 h2
      simp only [Option.some.injEq] at h; subst h
      simp [evp, evA_ok hk h1, evPA_ok hk h2, shP]
    · cases h
theorem evPA_bd {c : Nat} (ht : TBd c t) : ∀ {os : List (Nat × Operand)} {pv : List (Nat × AV)}, evPA t os = some pv → ∀ p ∈ pv, bd c p.2 = true
  | [], _, h => by simp only [evPA, Option.some.injEq] at h; subst h; simp
  | (i, x) :: os, _, h => by
    simp only [evPA] at h
    split at h
    · rename_i v vs h1 h2
      simp only [Option.some.injEq] at h; subst h
      intro p hp
      rcases List.mem_cons.1 hp with rfl | hp
      · exact evA_bd ht h1
      · exact evPA_bd ht h2 p hp
    · cases h
def fillV (place : Nat → Option (Nat × Nat)) : List AV → List (Nat × AV) → Option (List AV)
  | cs, [] => some cs
  | cs, (i, v) :: rest => match place i, cellsV v with
    | some (off, size), some vs => bif Nat.beq vs.length size && !vs.isEmpty then (match setsV cs off vs with | some l => fillV place l rest | none => none) else none
    | _, _ => none
theorem fillV_ok {place : Nat → Option (Nat × Nat)} : ∀ {pv : List (Nat × AV)} {cs l : List AV}, fillV place cs pv = some l → fillL place (shL ρ cs) (shP ρ pv) = some (shL ρ l)
  | [], cs, l, h => by simp only [fillV, Option.some.injEq] at h; subst h; rfl
  | (i, v) :: rest, cs, l, h => by
    simp only [fillV] at h
    split at h
    · rename_i off size vs hp hc
      cases hb : (Nat.beq vs.length size && !vs.isEmpty) with
      | false => rw [hb] at h; cases h
      | true =>
        rw [hb] at h; simp only [cond_true] at h
        split at h
        · rename_i q hq
          have e1 := setsV_ok (ρ := ρ) (tl := []) hq
          simp only [List.append_nil] at e1
          have hb' : (Nat.beq (shL ρ vs).length size && !(shL ρ vs).isEmpty) = true := by
            rw [shL_len]; rw [← hb]; cases vs <;> simp [shL]
          simp only [shP, fillL, hp, cellsV_ok (ρ := ρ) hc, hb', cond_true, e1]
          exact fillV_ok h
        · cases h
    · cases h
theorem fillV_bd {c : Nat} {place : Nat → Option (Nat × Nat)} : ∀ {pv : List (Nat × AV)} {cs l : List AV}, fillV place cs pv = some l → bdL c cs = true → (∀ p ∈ pv, bd c p.2 = true) → bdL c l = true
  | [], cs, l, h, hb, _ => by simp only [fillV, Option.some.injEq] at h; subst h; exact hb
  | (i, v) :: rest, cs, l, h, hb, hp => by
    simp only [fillV] at h
    split at h
    · rename_i off size vs h1 hc
      cases hb2 : (Nat.beq vs.length size && !vs.isEmpty) with
      | false => rw [hb2] at h; cases h
      | true =>
        rw [hb2] at h; simp only [cond_true] at h
        split at h
        · rename_i q hq
          exact fillV_bd h (setsV_bd hq hb (cellsV_bd hc (hp (i, v) (by simp)))) (fun p hm => hp p (List.mem_cons_of_mem _ hm))
        · cases h
    · cases h
def yBuild (t : Tr) (tt : TypeId) (parts : Array (Nat × Operand)) : Option AV :=
  match evPA t parts.toList, zT.at tt with
  | some pv, some zs => match ofVs zs with
    | some zv => match fsT.at tt with
      | some fs => match fillV (fun i => fs[i]?) zv pv with
        | some cs => some (.agg cs)
        | none => none
      | none => match arT.at tt with
        | some (_, k) => match fillV (fun i => some (i * k, k)) zv pv with
          | some cs => some (.agg cs)
          | none => none
        | none => none
    | none => none
  | _, _ => none
theorem yBuild_ok {parts : Array (Nat × Operand)} (h : yBuild t tt parts = some v) : YS w0 t H (.build tt parts) ty v := by
  intro ρ n s hf o g hk hg hw
  unfold yBuild at h
  split at h
  · rename_i pv zs hpv hz
    split at h
    · rename_i zv hzv
      rw [zT_ok] at hz
      have hp' := evPA_ok hk hpv
      split at h
      · rename_i fs hfs
        rw [fsT_ok] at hfs
        split at h
        · rename_i cs hcs
          simp only [Option.some.injEq] at h; subst h
          have hc := fillV_ok (ρ := ρ) hcs
          rw [ofVs_ok (ρ := ρ) hzv] at hc
          simp only [sh]
          exact y_build hp' hz hfs hc hw
        · cases h
      · split at h
        · rename_i q k ha
          split at h
          · rename_i cs hcs
            simp only [Option.some.injEq] at h; subst h
            have hc := fillV_ok (ρ := ρ) hcs
            rw [ofVs_ok (ρ := ρ) hzv] at hc
            obtain ⟨e, i, hu, hi, hik, _⟩ := ar_ty ha
            obtain ⟨z, hzc, hzr⟩ := z_ty hz
            simp only [sh]
            refine y_yield hw (fun tm W hkn hW => ?_)
            have ep : (parts.map fun (i, x) => (i, Act.eval ⟨tm, []⟩ x)).toList = shP ρ pv := by rw [Array.toList_map]; exact evp_ok hkn hp'
            simp only [execOp, CO.oper, Instr.build, Sem.run_bind, (hzr W).1, Result.andThen_ok, run_underlying hu, sizeOf_run hi]
            rw [ep, hzc, hik, fillL_eq hc]
            rfl
          · cases h
        · cases h
    · cases h
  · cases h
/-- A literal of no elements. -/
def nBuild0 (H : AH) (nx : Nat) (tt : TypeId) : Option (AV × AH × Nat) :=
  match elT.at tt with
  | some e => match zT.at e with
    | some _ => some (.sli nx 0 0 true 0, (nx, ⟨[], e, none⟩) :: H, nx + 1)
    | none => none
  | none => none
set_option maxRecDepth 20000 in
theorem nBuild0_ok (h : nBuild0 H nx tt = some (v, H', nx')) : NS t H nx (.buildSlice tt 0 #[]) ty v H' nx' w0 := by
  intro ht hH
  unfold nBuild0 at h
  split at h
  · rename_i e he
    split at h
    · rename_i zs hz
      simp only [Option.some.injEq, Prod.mk.injEq] at h
      obtain ⟨rfl, rfl, rfl⟩ := h
      have hb : bdL nx (⟨[], e, none⟩ : Bk).cs = true := rfl
      refine ⟨⟨Nat.le_succ _, hH.cons hb⟩, fun ρ n s hf g d rest Q hk hg hw hd K => ?_⟩
      have hu := el_ty (by rw [← elT_ok]; exact he)
      obtain ⟨z, _, hzr⟩ := z_ty (by rw [← zT_ok]; exact hz)
      have K' : ∀ r, AC Tryz.prog w0 n Q rest ((d, .slice (some ⟨r, 0, none⟩) 0 0) :: s) (⟨r, #[], e⟩ :: (hl ρ H ++ hf)) := fun r => by
        have := K (upd ρ nx ⟨r, 0, [], none⟩) (upd_agree _ _ _) (hg.cons hH (by simp))
        rw [hl_new hH hb] at this
        simpa [sh, upd_at, shL] using this
      refine fun D tm W hkn hi => .inr ⟨hw n tm hkn, ?_⟩
      have hb0 : (Instr.buildSlice tt 0 ((#[] : Array (Nat × Operand)).map fun (i, x) => (i, Act.eval ⟨tm, []⟩ x))).run Tryz.prog W = .ok (.slice (some ⟨W.heap.size, 0, none⟩) 0 0) (W.alloc (.cells #[] e)) := by
        simp only [Instr.buildSlice, Sem.run_bind, run_underlying hu, Result.andThen_ok, (hzr W).2, Nat.zero_mul]
        simp [Instr.fill, newRow, Sem.run_bind, show Array.range 0 = #[] from rfl]
      have e0 : (execOp (Act.eval ⟨tm, []⟩) (CO.oper ⟨some d, .buildSlice tt 0 #[], ty, g⟩)).run Tryz.prog W = .ok (.value (.slice (some ⟨W.heap.size, 0, none⟩) 0 0)) (W.alloc (.cells #[] e)) := by
        show Sem.run _ (do let v ← Instr.buildSlice tt 0 ((#[] : Array (Nat × Operand)).map fun (i, x) => (i, Act.eval ⟨tm, []⟩ x)); pure (Next.value v)) W = _
        rw [Sem.run_bind, hb0]; rfl
      simp only [Oper.wp, ev_defers tm D, e0, Oper.upon]
      rw [show (CO.oper ⟨some d, .buildSlice tt 0 #[], ty, g⟩).dst = some d from rfl, put_eq]
      exact ⟨rfl, _, _, hkn.put hd, hi.alloc _ _, K' _⟩
    · cases h
  · cases h
def nBuildS (t : Tr) (H : AH) (nx : Nat) (tt : TypeId) (len : Nat) (parts : Array (Nat × Operand)) : Option (AV × AH × Nat) :=
  match evPA t parts.toList, elT.at tt with
  | some pv, some e => match zT.at e with
    | some zs => match ofVs zs with
      | some zv =>
        bif Nat.ble (len * zv.length) 16777216 && Nat.blt 0 (len * zv.length) then
          match fillV (fun i => some (i * zv.length, zv.length)) ((List.range (len * zv.length)).map fun i => (nthV zv (i % zv.length)).getD .und) pv with
          | some cs => some (.sli nx 0 len true len, (nx, ⟨cs, e, none⟩) :: H, nx + 1)
          | none => none
        else none
      | none => none
    | none => none
  | _, _ => none
theorem nBuildS_ok {len : Nat} {parts : Array (Nat × Operand)} (h : nBuildS t H nx tt len parts = some (v, H', nx')) : NS t H nx (.buildSlice tt len parts) ty v H' nx' w0 := by
  intro ht hH
  unfold nBuildS at h
  split at h
  · rename_i pv e hpv he
    split at h
    · rename_i zs hz
      split at h
      · rename_i zv hzv
        cases hb0 : (Nat.ble (len * zv.length) 16777216 && Nat.blt 0 (len * zv.length)) with
        | false => rw [hb0] at h; cases h
        | true =>
          rw [hb0] at h; simp only [cond_true] at h
          split at h
          · rename_i cs hcs
            simp only [Option.some.injEq, Prod.mk.injEq] at h
            obtain ⟨rfl, rfl, rfl⟩ := h
            have hzb : bdL nx zv = true := ofVs_bd nx hzv
            have hb : bdL nx (⟨cs, e, none⟩ : Bk).cs = true := by
              refine fillV_bd hcs ?_ (evPA_bd ht hpv)
              rw [bdL_mem]
              intro u hu
              obtain ⟨i, _, rfl⟩ := List.mem_map.1 hu
              rw [nthV_eq]
              cases hi : zv[i % zv.length]? with
              | none => rfl
              | some w => exact bdL_mem.1 hzb w (List.mem_of_getElem? hi)
            refine ⟨⟨Nat.le_succ _, hH.cons hb⟩, fun ρ n s hf g d rest Q hk hg hw hd K => ?_⟩
            have hc := fillV_ok (ρ := ρ) hcs
            have hzs := ofVs_ok (ρ := ρ) hzv
            have hlen : zv.length = zs.length := by rw [← hzs, shL_len]
            have hst : shL ρ ((List.range (len * zv.length)).map fun i => (nthV zv (i % zv.length)).getD .und) = (List.range (len * zv.length)).map fun i => zs.toArray[i % zv.length]! := by
              rw [shL_map, List.map_map]
              apply List.map_congr_left
              intro i hi
              simp only [Function.comp]
              have hpos : 0 < zv.length := by
                rcases Nat.eq_zero_or_pos zv.length with e0 | e0
                · rw [e0] at hi; simp at hi
                · exact e0
              have hlt : i % zv.length < zv.length := Nat.mod_lt _ hpos
              rw [nthV_eq, List.getElem?_eq_getElem hlt]
              have hlt2 : i % zv.length < zs.length := by rw [← hlen]; exact hlt
              have e1 : zs.toArray[i % zv.length]! = zs[i % zv.length] := by
                rw [getElem!_pos _ _ (by simpa using hlt2)]; simp
              rw [e1]
              have : (shL ρ zv)[i % zv.length]? = zs[i % zv.length]? := by rw [hzs]
              rw [shL_map, List.getElem?_map, List.getElem?_eq_getElem hlt, List.getElem?_eq_getElem hlt2] at this
              simpa using this
            rw [hst] at hc
            refine ac_buildSlice (k := zv.length) (by rw [← elT_ok]; exact he) (evPA_ok hk hpv) (by rw [← zT_ok]; exact hz) hlen.symm hc hb0 hw hd fun r => ?_
            have := K (upd ρ nx ⟨r, 0, [], none⟩) (upd_agree _ _ _) (hg.cons hH (by simp))
            rw [hl_new hH hb] at this
            simpa [sh, upd_at] using this
          · cases h
      · cases h
    · cases h
  · cases h
end
end
end Go.Proofs.YtpmjbobgglgnaaaGreatDoor
