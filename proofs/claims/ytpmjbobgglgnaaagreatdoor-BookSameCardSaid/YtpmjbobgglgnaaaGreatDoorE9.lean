/- Closed calls that the kernel carries out: rows that grow, stores, results. -/
import Derived.Test.YtpmjbobgglgnaaaGreatDoorE8
namespace Go.Proofs.YtpmjbobgglgnaaaGreatDoor
noncomputable section
open Go.RowKit
set_option linter.unusedVariables false
set_option linter.unusedSimpArgs false
section
variable {w0 : World} {n : Nat} {t : Tr} {H H' : AH} {nx nx' : Nat} {ρ : Rho} {s : Sl} {h : List Bx} {hf : List Bx} {o : Option Tmp} {dd : Option Tmp} {g : Option (Option Tmp × Bool)} {ty tt tu tx : TypeId} {x y : Operand} {v : AV} {Q : AQ} {rest : List CO} {d : Nat}
theorem HBd.drop {c k : Nat} (hH : HBd c H) : HBd c (AHdrop H k) := by
  intro j b hm
  refine hH j b ?_
  clear hH
  induction H with
  | nil => cases hm
  | cons p H ih =>
    obtain ⟨i, b'⟩ := p
    simp only [AHdrop] at hm
    cases hb : Nat.beq i k with
    | true => rw [hb] at hm; exact List.mem_cons_of_mem _ hm
    | false =>
      rw [hb] at hm; simp only [cond_false] at hm
      rcases List.mem_cons.1 hm with e | hm
      · rw [e]; exact List.mem_cons_self
      · exact List.mem_cons_of_mem _ (ih hm)
theorem drop_mem {k j : Nat} {b : Bk} (hm : (j, b) ∈ AHdrop H k) : (j, b) ∈ H := by
  induction H with
  | nil => cases hm
  | cons p H ih =>
    obtain ⟨i, b'⟩ := p
    simp only [AHdrop] at hm
    cases hb : Nat.beq i k with
    | true => rw [hb] at hm; exact List.mem_cons_of_mem _ hm
    | false =>
      rw [hb] at hm; simp only [cond_false] at hm
      rcases List.mem_cons.1 hm with e | hm
      · rw [e]; exact List.mem_cons_self
      · exact List.mem_cons_of_mem _ (ih hm)
theorem hl_rem {k : Nat} {b : Bk} : ∀ {H : AH}, AHfind H k = some b → RemL [bxOf ρ k b] (hl ρ H ++ hf) (hl ρ (AHdrop H k) ++ hf)
  | [], h => by simp [AHfind] at h
  | (j, x) :: H, h => by
    simp only [AHfind] at h
    simp only [AHdrop]
    cases hb : Nat.beq j k with
    | true => rw [hb] at h; simp only [cond_true, Option.some.injEq] at h; rw [Nat.beq_eq] at hb; subst hb h; exact RemL.head _
    | false => rw [hb] at h; exact RemL.tail _ (hl_rem h)
theorem OwnR.room {e : TypeId} {k len : Nat} {cells : List Value} {v : Value} {hb : List Bx} (hO : OwnR e k cells len v hb) (hp : 0 < len) :
    ∃ r c sp, v = .slice (some ⟨r, 0, none⟩) len c ∧ hb = [⟨r, (cells ++ sp).toArray, e⟩] ∧ cells.length = len * k ∧ (cells ++ sp).length = c * k ∧ len ≤ c := by
  rcases hO with ⟨_, rfl, _⟩ | h
  · exact absurd hp (Nat.lt_irrefl 0)
  · exact h
/-- append where there is no room: always a new row; the old one is only read. -/
theorem ac_appendNew {e e' : TypeId} {i : TypeInfo} {z : Value} {k len m c cB : Nat} {A B : Option Addr} {olds news : List Value} (hx : ev s x = some (.slice B len cB)) (hy : ev s y = some (.slice A m c))
    (hB : RowIn k w0 h B len olds) (hN : RowIn k w0 h A m news) (ht : Tryz.prog.underlying tt = some (.slice e)) (htx : Tryz.prog.underlying tx = some (.slice e')) (hi : Tryz.prog.info? e = some i) (hz : i.zero = some z) (hzk : z.cells.size = k) (hik : i.size = k) (hk : 0 < k)
    (hlt : cB < len + m) (hbnd : (len + m) * i.bytes ≤ 140737488355328) (hbnd2 : len + m ≤ 9223372036854775807) (hw : Wan s g true) (hd : Nat.blt d n = true)
    (H : ∀ r c' sp, (olds ++ news ++ sp).length = c' * k → len + m ≤ c' → AC Tryz.prog w0 n Q rest ((d, .slice (some ⟨r, 0, none⟩) (len + m) c') :: s) (⟨r, (olds ++ news ++ sp).toArray, e⟩ :: h)) :
    AC Tryz.prog w0 n Q (⟨some d, .call ⟨.builtin .append, #[x, y], #[tt, tx]⟩, ty, g⟩ :: rest) s h := fun D tm W hk' hinv => .inr ⟨hw n tm hk', by
  have hsrc := hN.src (c := c) hinv htx hk
  have hold := hB.src (c := cB) hinv ht hk
  rw [← hik] at hsrc hold
  have he := run_append_grow_src W tt tx ty e i z ht hi hz B len cB olds hold.cellsD (.slice A m c) m news hsrc hlt (by omega) (growslice_fits hlt hbnd)
  have hge := grownCap_ge W (len + m) cB e
  have hexec : (execOp (Act.eval ⟨tm, []⟩) (CO.oper ⟨some d, .call ⟨.builtin .append, #[x, y], #[tt, tx]⟩, ty, g⟩)).run Tryz.prog W = .ok (.value (.slice (some ⟨W.heap.size, 0, none⟩) (len + m) (grownCap W (len + m) cB e))) (W.drew.alloc (.cells ((olds ++ news).toArray ++ Builtin.zeroCells z.cells (grownCap W (len + m) cB e - (len + m))) e)) := by
    simp only [execOp, CO.oper, resolve, List.map_toArray, List.map_cons, List.map_nil, ev_ok (ds := []) hk' hx, ev_ok (ds := []) hk' hy, pure_bind, invoke, builtin, Sem.run_bind, he]
    rfl
  simp only [Oper.wp, ev_defers tm D, hexec, Oper.upon]
  rw [show (CO.oper ⟨some d, .call ⟨.builtin .append, #[x, y], #[tt, tx]⟩, ty, g⟩).dst = some d from rfl, put_eq]
  have hsz : (Builtin.zeroCells z.cells (grownCap W (len + m) cB e - (len + m))).size = (grownCap W (len + m) cB e - (len + m)) * k := by rw [size_zeroCells, hzk]
  have hcs : ((olds ++ news).toArray ++ Builtin.zeroCells z.cells (grownCap W (len + m) cB e - (len + m))) = (olds ++ news ++ (Builtin.zeroCells z.cells (grownCap W (len + m) cB e - (len + m))).toList).toArray := by
    apply Array.toList_inj.1; simp
  refine ⟨rfl, _, _, hk'.put hd, (by rw [hcs]; exact hinv.drew.alloc _ e), H W.heap.size _ _ ?_ hge⟩
  simp only [List.length_append, hB.len, hN.len, Array.length_toList, hsz]
  rw [← Nat.add_mul, ← Nat.add_mul, Nat.add_sub_cancel' hge]⟩
/-- append. -/
def nAppend (t : Tr) (H : AH) (nx : Nat) (x y : Operand) (tt tx : TypeId) : Option (AV × AH × Nat) :=
  match apT.at tt, apT.at tx, evA t x, evA t y with
  | some (e, k, b), some (e', k', _), some u, some w =>
    match rowV H k w with
    | some news => bif all1V news && Nat.beq e e' && Nat.ble ((slOf ρ0 u).2.1 + (slOf ρ0 w).2.1) 1048576 && Nat.ble b 1048576 then
      match u with
      | .nils => bif Nat.beq (slOf ρ0 w).2.1 0 then none else
          some (.sli nx 0 (slOf ρ0 w).2.1 false 0, (nx, ⟨news, e, some k⟩) :: H, nx + 1)
      | .sli q 0 len false 0 => bif Nat.beq (len + (slOf ρ0 w).2.1) 0 then none else match AHfind H q with
        | some bk => bif Nat.beq bk.ty e && Nat.ble (len * k) bk.cs.length && (match bk.gr with | some z => Nat.beq z k | none => false) && Nat.ble len 1048576 then
            some (.sli nx 0 (len + (slOf ρ0 w).2.1) false 0, (nx, ⟨bk.cs.take (len * k) ++ news, e, some k⟩) :: AHdrop H q, nx + 1)
          else none
        | none => none
      | .sli q o len true c => bif Nat.blt c (len + (slOf ρ0 w).2.1) then
          match rowV H k (.sli q o len true c) with
          | some olds => bif all1V olds then some (.sli nx 0 (len + (slOf ρ0 w).2.1) false 0, (nx, ⟨olds ++ news, e, some k⟩) :: H, nx + 1) else none
          | none => none
        else none
      | _ => none
    else none
    | none => none
  | _, _, _, _ => none
theorem slOf_len (ρ : Rho) (h : isSl v = true) : (slOf ρ v).2.1 = (slOf ρ0 v).2.1 := by cases v <;> simp [isSl] at h <;> rfl
theorem rowV_bd {c kk : Nat} {cs : List AV} (hH : HBd c H) (h : rowV H kk v = some cs) : bdL c cs = true := by
  cases v <;> simp only [rowV, Option.some.injEq, reduceCtorEq] at h
  case nils => subst h; rfl
  case emp k => subst h; rfl
  case sli k o len kn q =>
    split at h
    · rename_i b hb
      unfold nthsV at h
      obtain ⟨_, e⟩ := takeV_eq h
      rw [dropV_eq] at e
      rw [e, bdL_mem]
      intro u hu
      exact bdL_mem.1 (hH k b (find_mem hb)).2 u (List.mem_of_mem_drop (List.mem_of_mem_take hu))
    · cases h
theorem nAppend_ok (h : nAppend t H nx x y tt tx = some (v, H', nx')) : NS t H nx (.call ⟨.builtin .append, #[x, y], #[tt, tx]⟩) ty v H' nx' w0 := by
  intro ht hH
  unfold nAppend at h
  split at h
  · rename_i e k b e' k' b' u w ha hax hu hwv
    split at h
    · rename_i news hnews
      cases hb0 : (all1V news && Nat.beq e e' && Nat.ble ((slOf ρ0 u).2.1 + (slOf ρ0 w).2.1) 1048576 && Nat.ble b 1048576) with
      | false => rw [hb0] at h; cases h
      | true =>
        rw [hb0] at h; simp only [cond_true] at h
        simp only [Bool.and_eq_true, Nat.ble_eq, Nat.beq_eq] at hb0
        obtain ⟨⟨⟨hn1, he⟩, hlen⟩, hbb⟩ := hb0
        subst he
        obtain ⟨i, z, A⟩ := ap_ty ha
        obtain ⟨i', z', A'⟩ := ap_ty hax
        have hnb : bdL nx news = true := rowV_bd hH hnews
        have hbnd : ∀ L, L ≤ 1048576 → L * i.bytes ≤ 140737488355328 := fun L hL => by
          rw [A.hb]
          exact Nat.le_trans (Nat.mul_le_mul hL hbb) (by decide)
        split at h
        · -- from nothing
          cases hz : Nat.beq (slOf ρ0 w).2.1 0 with
          | true => rw [hz] at h; cases h
          | false =>
            rw [hz] at h; simp only [cond_false, Option.some.injEq, Prod.mk.injEq] at h
            obtain ⟨rfl, rfl, rfl⟩ := h
            have hpos : 0 < (slOf ρ0 w).2.1 := Nat.pos_of_ne_zero (Nat.ne_of_beq_eq_false hz)
            refine ⟨⟨Nat.le_succ _, hH.cons hnb⟩, fun ρ n s hf g d rest Q hk hg hw hd K => ?_⟩
            obtain ⟨f1, f2⟩ := rowV_in (w0 := w0) (ρ := ρ) (hf := hf) hnews hn1
            have hx' := evA_ok hk hu
            have hy' := evA_ok hk hwv
            rw [isSl_sh (ρ := ρ) f1] at hy'
            simp only [sh] at hx'
            rw [slOf_len ρ f1] at hy' f2
            have hlen : 0 + (slOf ρ0 w).2.1 ≤ 1048576 := hlen
            refine ac_append hx' hy' (.inl ⟨rfl, rfl, rfl, rfl⟩) (RemL.head _) f2 A.u A'.u A.hi A.hz A.zk A.ik A.hk (hbnd _ (by simpa using hlen)) (by omega) hw hd (fun v' hb' hO => ?_)
            obtain ⟨r, c, sp, rfl, rfl, e1, e2, e3⟩ := hO.room (by omega)
            have := K (upd ρ nx ⟨r, c, sp, none⟩) (upd_agree _ _ _) (hg.cons hH (by
              intro z hz; simp only [Option.some.injEq] at hz; subst hz
              have := e2; simp only [List.nil_append, List.length_append, shL_len] at this ⊢; exact this))
            rw [hl_new hH hnb] at this
            simpa [sh, upd_at] using this
        · -- a row that grows
          rename_i q len
          cases hz : Nat.beq (len + (slOf ρ0 w).2.1) 0 with
          | true => rw [hz] at h; cases h
          | false =>
            rw [hz] at h; simp only [cond_false] at h
            have hpos : 0 < len + (slOf ρ0 w).2.1 := Nat.pos_of_ne_zero (Nat.ne_of_beq_eq_false hz)
            split at h
            · rename_i bk hbk
              cases hb1 : (Nat.beq bk.ty e && Nat.ble (len * k) bk.cs.length && (match bk.gr with | some z => Nat.beq z k | none => false) && Nat.ble len 1048576) with
              | false => rw [hb1] at h; cases h
              | true =>
                rw [hb1] at h; simp only [cond_true, Option.some.injEq, Prod.mk.injEq] at h
                obtain ⟨rfl, rfl, rfl⟩ := h
                simp only [Bool.and_eq_true, Nat.ble_eq, Nat.beq_eq] at hb1
                obtain ⟨⟨⟨b1, b2⟩, b3⟩, b4⟩ := hb1
                have hgr : bk.gr = some k := by
                  split at b3
                  · rename_i z hz'; rw [Nat.beq_eq] at b3; rw [hz', b3]
                  · cases b3
                have hbb2 := (hH q bk (find_mem hbk)).2
                have hnb2 : bdL nx (⟨bk.cs.take (len * k) ++ news, e, some k⟩ : Bk).cs = true := bdL_app (bdL_mem.2 fun v hv => bdL_mem.1 hbb2 v (List.mem_of_mem_take hv)) hnb
                refine ⟨⟨Nat.le_succ _, hH.drop.cons hnb2⟩, fun ρ n s hf g d rest Q hk hg hw hd K => ?_⟩
                obtain ⟨f1, f2⟩ := rowV_in (w0 := w0) (ρ := ρ) (hf := hf) hnews hn1
                have hx' := evA_ok hk hu
                have hy' := evA_ok hk hwv
                rw [isSl_sh (ρ := ρ) f1] at hy'
                simp only [sh, Bool.false_eq_true, if_false, Nat.sub_zero] at hx'
                rw [slOf_len ρ f1] at hy' f2
                have hlen : len + (slOf ρ0 w).2.1 ≤ 1048576 := hlen
                have hgk := hg q bk k (find_mem hbk) hgr
                have hO : OwnR e k (shL ρ (bk.cs.take (len * k))) len (.slice (some ⟨(ρ q).g, 0, none⟩) len (ρ q).cap) [bxOf ρ q bk] := by
                  refine .inr ⟨(ρ q).g, (ρ q).cap, shL ρ (bk.cs.drop (len * k)) ++ (ρ q).tl, rfl, ?_, by rw [shL_len, List.length_take, Nat.min_eq_left b2], by simp only [List.length_append, shL_len, List.length_take, List.length_drop]; omega, ?_⟩
                  · simp only [bxOf, hgr, Option.isSome_some, if_true, b1, ← List.append_assoc, ← shL_app, List.take_append_drop]
                  · exact room hg hbk hgr A.hk (by omega)
                refine ac_append hx' hy' hO (hl_rem hbk) f2 A.u A'.u A.hi A.hz A.zk A.ik A.hk (hbnd _ hlen) (by omega) hw hd (fun v' hb' hO' => ?_)
                obtain ⟨r, c, sp, rfl, rfl, e1, e2, e3⟩ := hO'.room (by omega)
                have hg2 : Gr ρ (AHdrop H q) := fun k' b' z hm hz => hg k' b' z (drop_mem hm) hz
                have := K (upd ρ nx ⟨r, c, sp, none⟩) (upd_agree _ _ _) (hg2.cons hH.drop (by
                  intro z hz; simp only [Option.some.injEq] at hz; subst hz
                  have := e2; simp only [List.length_append, shL_len] at this ⊢; exact this))
                rw [hl_new hH.drop hnb2] at this
                simpa [sh, upd_at, shL_app] using this
            · cases h
        · -- no room
          rename_i q o' len c
          cases hc : Nat.blt c (len + (slOf ρ0 w).2.1) with
          | false => rw [hc] at h; cases h
          | true =>
            rw [hc] at h; simp only [cond_true] at h
            rw [Nat.blt_eq] at hc
            split at h
            · rename_i olds holds
              cases ho1 : all1V olds with
              | false => rw [ho1] at h; cases h
              | true =>
                rw [ho1] at h; simp only [cond_true, Option.some.injEq, Prod.mk.injEq] at h
                obtain ⟨rfl, rfl, rfl⟩ := h
                have hnb2 : bdL nx (⟨olds ++ news, e, some k⟩ : Bk).cs = true := bdL_app (rowV_bd hH holds) hnb
                refine ⟨⟨Nat.le_succ _, hH.cons hnb2⟩, fun ρ n s hf g d rest Q hk hg hw hd K => ?_⟩
                obtain ⟨f1, f2⟩ := rowV_in (w0 := w0) (ρ := ρ) (hf := hf) hnews hn1
                obtain ⟨g1, g2⟩ := rowV_in (w0 := w0) (ρ := ρ) (hf := hf) holds ho1
                have hx' := evA_ok hk hu
                have hy' := evA_ok hk hwv
                rw [isSl_sh (ρ := ρ) f1] at hy'
                rw [isSl_sh (ρ := ρ) g1] at hx'
                rw [slOf_len ρ f1] at hy' f2
                refine ac_appendNew hx' hy' g2 f2 A.u A'.u A.hi A.hz A.zk A.ik A.hk ?_ (hbnd _ hlen) (by have := hlen; simp only [slOf] at this ⊢; omega) hw hd (fun r c' sp e2 e3 => ?_)
                · simp only [slOf, if_true]; exact hc
                · have := K (upd ρ nx ⟨r, c', sp, none⟩) (upd_agree _ _ _) (hg.cons hH (by
                    intro z hz; simp only [Option.some.injEq] at hz; subst hz
                    have := e2; simp only [List.length_append, shL_len] at this ⊢; exact this))
                  rw [hl_new hH hnb2] at this
                  simpa [sh, upd_at, shL_app, slOf] using this
            · cases h
        · cases h
    · cases h
  · cases h
end
end
end Go.Proofs.YtpmjbobgglgnaaaGreatDoor
