/- Closed calls that the kernel carries out: all operations. -/
import Derived.Test.YtpmjbobgglgnaaaGreatDoorE9
namespace Go.Proofs.YtpmjbobgglgnaaaGreatDoor
noncomputable section
open Go.RowKit
set_option linter.unusedVariables false
set_option linter.unusedSimpArgs false
section
variable {w0 : World} {n : Nat} {t : Tr} {H H' : AH} {nx nx' : Nat} {ρ : Rho} {s : Sl} {h : List Bx} {hf : List Bx} {o : Option Tmp} {dd : Option Tmp} {g : Option (Option Tmp × Bool)} {ty tt tu tx : TypeId} {x y : Operand} {v : AV} {Q : AQ} {rest : List CO} {d : Nat}
def byA (b : UInt8) : AV := .int .u8 b.toNat
theorem byA_sh (xs : List UInt8) : shL ρ (xs.map byA) = bytesV xs := by
  rw [shL_map, List.map_map]
  apply List.map_congr_left
  intro b _
  simp [byA, sh, byV]
theorem byA_bd (c : Nat) (xs : List UInt8) : bdL c (xs.map byA) = true := by
  rw [bdL_mem]
  intro v hv
  obtain ⟨b, _, rfl⟩ := List.mem_map.1 hv
  rfl
def nBytes (t : Tr) (H : AH) (nx : Nat) (tt tu : TypeId) (x : Operand) : Option (AV × AH × Nat) :=
  match evA t x with
  | some (.str xs) => bif strTy tt && Nat.beq tu 267 && Nat.blt 0 xs.length then
      some (.sli nx 0 xs.length false 0, (nx, ⟨xs.map byA, 5, some 1⟩) :: H, nx + 1)
    else none
  | _ => none
theorem nBytes_ok (h : nBytes t H nx tt tu x = some (v, H', nx')) : NS t H nx (.convert tt tu x) ty v H' nx' w0 := by
  intro ht hH
  unfold nBytes at h
  split at h
  · rename_i xs hx
    cases hb : (strTy tt && Nat.beq tu 267 && Nat.blt 0 xs.length) with
    | false => rw [hb] at h; cases h
    | true =>
      rw [hb] at h; simp only [cond_true, Option.some.injEq, Prod.mk.injEq] at h
      obtain ⟨rfl, rfl, rfl⟩ := h
      simp only [Bool.and_eq_true, Nat.beq_eq, Nat.blt_eq] at hb
      obtain ⟨⟨b1, b2⟩, b3⟩ := hb
      have hnb : bdL nx (⟨xs.map byA, 5, some 1⟩ : Bk).cs = true := byA_bd nx xs
      refine ⟨⟨Nat.le_succ _, hH.cons hnb⟩, fun ρ n s hf g d rest Q hk hg hw hd K => ?_⟩
      have hx' := evA_ok hk hx
      simp only [sh] at hx'
      refine ac_bytes hx' (strTy_ok b1) (by rw [b2]; rfl) hw hd (fun v' hb' hO => ?_)
      obtain ⟨r, c, sp, rfl, rfl, e1, e2, e3⟩ := hO.room b3
      have := K (upd ρ nx ⟨r, c, sp, none⟩) (upd_agree _ _ _) (hg.cons hH (by
        intro z hz; simp only [Option.some.injEq] at hz; subst hz
        have := e2; simp only [List.length_append, List.length_map, bytesV] at this ⊢; exact this))
      rw [hl_new hH hnb] at this
      simpa [sh, upd_at, byA_sh] using this
  · cases h
/-- The end of a row, empty: whether it stands behind the row hangs on the room. -/
def nEmp (t : Tr) (H : AH) (nx : Nat) (tt : TypeId) (x : Operand) (lo hi mx : Option Operand) : Option (AV × AH × Nat) :=
  match evA t x, optN t lo, optN t hi, optN t mx with
  | some (.sli k o len false c), some (some l), some qh, some none =>
    match slT.at tt with
    | some kk => match AHfind H k with
      | some b => match b.gr with
        | some z => bif Nat.beq z kk && Nat.blt 0 kk && Nat.ble ((c + len) * kk) b.cs.length && Nat.beq l len && Nat.beq (qh.getD len) len then some (.emp nx, H, nx + 1) else none
        | none => none
      | none => none
    | none => none
  | _, _, _, _ => none
theorem nEmp_ok {lo hi mx : Option Operand} (h : nEmp t H nx tt x lo hi mx = some (v, H', nx')) : NS t H nx (.slice tt x lo hi mx) ty v H' nx' w0 := by
  intro ht hH
  unfold nEmp at h
  split at h
  · rename_i k i len c l qh hx h1 h2 h3
    split at h
    · rename_i kk hkk
      rw [slT_ok] at hkk
      split at h
      · rename_i b hfb
        split at h
        · rename_i z hz
          cases hb : (Nat.beq z kk && Nat.blt 0 kk && Nat.ble ((c + len) * kk) b.cs.length && Nat.beq l len && Nat.beq (qh.getD len) len) with
          | false => rw [hb] at h; cases h
          | true =>
            rw [hb] at h; simp only [cond_true, Option.some.injEq, Prod.mk.injEq] at h
            obtain ⟨rfl, rfl, rfl⟩ := h
            simp only [Bool.and_eq_true, Nat.ble_eq, Nat.blt_eq, Nat.beq_eq] at hb
            obtain ⟨⟨⟨⟨b1, b2⟩, b3⟩, b4⟩, b5⟩ := hb
            subst b1 b4
            refine ⟨⟨Nat.le_succ _, hH.mono (Nat.le_succ _)⟩, fun ρ n s hf g d rest Q hk hg hw hd K => ?_⟩
            have hx' := evA_ok hk hx
            simp only [sh, Bool.false_eq_true, if_false] at hx'
            have hr : c + l ≤ (ρ k).cap := room hg hfb hz b2 b3
            have hy := y_sliceG (w0 := w0) (n := n) (h := hl ρ H ++ hf) (dd := some d) (ty := ty) hx' hkk (optN_ok hk h1) (optN_ok hk h2) (optN_ok hk h3) (by rw [b5]; exact Nat.le_refl _) (by rw [b5]; simp only [Option.getD_none]; omega) (by simp) (by simp) hw
            refine ac_y hy hd ?_
            have := K (upd ρ nx ⟨0, (ρ k).cap - c - l, [], if (ρ k).cap - c = l then some ⟨(ρ k).g, i, none⟩ else some (⟨(ρ k).g, i + l * z, none⟩)⟩) (upd_agree _ _ _) (hg.agree (upd_agree _ _ _) hH)
            rw [hl_agree (upd_agree _ _ _) hH] at this
            simp only [sh, upd_at] at this
            simp only [Option.getD_none, Option.getD_some, b5, Nat.sub_self, Option.map_some, add0]
            exact this
        · cases h
      · cases h
    · cases h
  · cases h
/-- A store into a block. -/
def sStore (t : Tr) (H : AH) (tt : TypeId) (x y : Operand) : Option AH :=
  match evA t x, evA t y with
  | some (.ptr k i), some u => match AHfind H k, cellsV u with
    | some b, some vs => bif Nat.blt tt 416 && all1V vs && !vs.isEmpty && Nat.beq (match szT.at tt with | none => 1 | some q => q) vs.length then
        match setsV b.cs i vs with
        | some cs => some (AHput H k cs)
        | none => none
      else none
    | _, _ => none
  | _, _ => none
def SS (t : Tr) (H : AH) (nx : Nat) (op : Op) (H' : AH) (w0 : World) : Prop := TBd nx t → HBd nx H → HBd nx H' ∧
    ∀ (ρ : Rho) (n : Nat) (s : Sl) (hf : List Bx) (g : Option (Option Tmp × Bool)) (ty : TypeId) (rest : List CO) (Q : AQ), Kn ρ t s → Gr ρ H → Wan s g true →
      (Gr ρ H' → AC Tryz.prog w0 n Q rest s (hl ρ H' ++ hf)) → AC Tryz.prog w0 n Q (⟨none, op, ty, g⟩ :: rest) s (hl ρ H ++ hf)
theorem Gr.put {k : Nat} {b : Bk} {cs : List AV} (hlen : cs.length = b.cs.length) : ∀ {H : AH}, AHfind H k = some b → Gr ρ H → Gr ρ (AHput H k cs)
  | [], _, hg => hg
  | (j, x) :: H, hf, hg => fun i b' z hm hz => by
    simp only [AHfind] at hf
    simp only [AHput] at hm
    cases hb : Nat.beq j k with
    | true =>
      rw [hb] at hf hm; simp only [cond_true, Option.some.injEq] at hf hm
      subst hf
      rcases List.mem_cons.1 hm with e | hm
      · cases e
        have := hg j x z (by simp) hz
        simp only [hlen]; exact this
      · exact hg i b' z (List.mem_cons_of_mem _ hm) hz
    | false =>
      rw [hb] at hf hm; simp only [cond_false] at hf hm
      rcases List.mem_cons.1 hm with e | hm
      · cases e; exact hg j x z (by simp) hz
      · exact Gr.put hlen hf (fun i b z hm hz => hg i b z (List.mem_cons_of_mem _ hm) hz) i b' z hm hz
theorem sStore_ok (h : sStore t H tt x y = some H') : SS t H nx (.store tt x y) H' w0 := by
  intro ht hH
  unfold sStore at h
  split at h
  · rename_i k i u hx hy
    split at h
    · rename_i b vs hb hvs
      cases hc : (Nat.blt tt 416 && all1V vs && !vs.isEmpty && Nat.beq (match szT.at tt with | none => 1 | some q => q) vs.length) with
      | false => rw [hc] at h; cases h
      | true =>
        rw [hc] at h; simp only [cond_true] at h
        simp only [Bool.and_eq_true, Nat.beq_eq, Bool.not_eq_true'] at hc
        obtain ⟨⟨⟨c1, c2⟩, c3⟩, c4⟩ := hc
        split at h
        · rename_i cs hcs
          simp only [Option.some.injEq] at h; subst h
          have hbb := (hH k b (find_mem hb)).2
          refine ⟨HBd.put (setsV_bd hcs hbb (cellsV_bd hvs (evA_bd ht hy))) hH, fun ρ n s hf g ty rest Q hk hg hw K => ?_⟩
          have hx' := evA_ok hk hx
          simp only [sh] at hx'
          have hu := (hl_put (ρ := ρ) (cs := cs) hb).app hf
          simp only [bxOf] at hu
          refine ac_storeC hx' (evA_ok hk hy) (cellsV_ok hvs) hu c1 (by rw [← szT_ok, shL_len]; exact c4) ?_ (all1V_ok c2) (setsV_ok hcs) hw (K (hg.put (setsV_len hcs) hb))
          cases vs with
          | nil => simp at c3
          | cons a l => rfl
        · cases h
    · cases h
  · cases h
def zeroV (zs : List AV) : Nat → List AV
  | 0 => []
  | n + 1 => zs ++ zeroV zs n
theorem zeroV_len (zs : List AV) : ∀ n, (zeroV zs n).length = n * zs.length
  | 0 => by simp [zeroV]
  | n + 1 => by simp [zeroV, zeroV_len zs n, Nat.add_mul, Nat.add_comm]
theorem zeroV_at (zs : List AV) : ∀ (n i : Nat), i < n * zs.length → (zeroV zs n)[i]? = zs[i % zs.length]?
  | 0, i, h => by simp at h
  | n + 1, i, h => by
    simp only [zeroV]
    by_cases hi : i < zs.length
    · rw [List.getElem?_append_left hi, Nat.mod_eq_of_lt hi]
    · have hge : zs.length ≤ i := Nat.le_of_not_lt hi
      rw [List.getElem?_append_right hge, zeroV_at zs n (i - zs.length) (by rw [Nat.add_mul] at h; omega)]
      congr 1
      exact (Nat.mod_eq_sub_mod hge).symm
/-- clear of a slice. -/
def sClear (t : Tr) (H : AH) (x : Operand) (tt : TypeId) : Option AH :=
  match evA t x, apT.at tt with
  | some (.sli k i len kn c), some (e, _, _) =>
    bif Nat.beq len 0 then some H else
    match AHfind H k, zT.at e with
    | some b, some zs => match ofVs zs with
      | some zv => bif all1V zv then match setsV b.cs i (zeroV zv len) with
          | some cs => some (AHput H k cs)
          | none => none
        else none
      | none => none
    | _, _ => none
  | some .nils, some _ => some H
  | some (.emp _), some _ => some H
  | _, _ => none
theorem zeroV_bd {c : Nat} {zs : List AV} (h : bdL c zs = true) : ∀ n, bdL c (zeroV zs n) = true
  | 0 => rfl
  | n + 1 => bdL_app h (zeroV_bd h n)
theorem all1V_app : ∀ {a b : List AV}, all1V a = true → all1V b = true → all1V (a ++ b) = true
  | [], _, _, h => h
  | x :: a, b, h1, h2 => by simp only [all1V, Bool.and_eq_true, List.cons_append] at h1 ⊢; exact ⟨h1.1, all1V_app h1.2 h2⟩
theorem zeroV_all1 {zs : List AV} (h : all1V zs = true) : ∀ n, all1V (zeroV zs n) = true
  | 0 => rfl
  | n + 1 => all1V_app h (zeroV_all1 h n)
theorem zeroV_sh {zs : List AV} {zc : Array Value} (hz : (shL ρ zs).toArray = zc) (n : Nat) : (Builtin.zeroCells zc n).toList = shL ρ (zeroV zs n) := by
  have hl : zc.size = zs.length := by rw [← hz]; simp [shL_len]
  apply List.ext_getElem?
  intro i
  by_cases hi : i < n * zs.length
  · have h1 : (shL ρ (zeroV zs n))[i]? = (shL ρ zs)[i % zs.length]? := by rw [shL_map, shL_map, List.getElem?_map, List.getElem?_map, zeroV_at zs n i hi]
    have hpos : 0 < zs.length := by
      rcases Nat.eq_zero_or_pos zs.length with e | e
      · rw [e] at hi; simp at hi
      · exact e
    have hlt : i % zs.length < (shL ρ zs).length := by rw [shL_len]; exact Nat.mod_lt _ hpos
    rw [h1, List.getElem?_eq_getElem hlt]
    simp only [Builtin.zeroCells, Array.getElem?_toList, hl]
    rw [Array.getElem?_map, Array.getElem?_range, if_pos hi]
    simp only [Option.map_some, Option.some.injEq]
    rw [getElem!_pos zc (i % zs.length) (by rw [hl]; exact Nat.mod_lt _ hpos)]
    subst hz; simp
  · have h1 : (shL ρ (zeroV zs n)).length ≤ i := by rw [shL_len, zeroV_len]; omega
    rw [List.getElem?_eq_none h1, List.getElem?_eq_none (by rw [Array.length_toList, size_zeroCells, hl]; omega)]
theorem ac_calm0 {op : Op} {b : Value} (hw : Wan s g true) (hv : ∀ tm W, Knows n s tm → Inv w0 h W → (execOp (Act.eval ⟨tm, []⟩) (CO.oper ⟨none, op, ty, g⟩)).run Tryz.prog W = .ok (.value b) W) (K : AC Tryz.prog w0 n Q rest s h) :
    AC Tryz.prog w0 n Q (⟨none, op, ty, g⟩ :: rest) s h := fun D tm W hk hi => .inr ⟨hw n tm hk, by
  simp only [Oper.wp, ev_defers tm D, hv tm W hk hi, Oper.upon]
  rw [show (CO.oper ⟨none, op, ty, g⟩).dst = none from rfl, put_eq]
  exact ⟨rfl, s, h, hk, hi, K⟩⟩
theorem sClear_ok (h : sClear t H x tt = some H') : SS t H nx (.call ⟨.builtin .clear, #[x], #[tt]⟩) H' w0 := by
  intro ht hH
  have calm : ∀ (u : AV) e k b, evA t x = some u → apT.at tt = some (e, k, b) → isSl u = true → (slOf ρ0 u).2.1 = 0 → SS t H nx (.call ⟨.builtin .clear, #[x], #[tt]⟩) H w0 := fun u e k b hx ha h1 h2 ht hH => by
    obtain ⟨i, z, A⟩ := ap_ty ha
    refine ⟨hH, fun ρ n s hf g ty rest Q hk hg hw K => ?_⟩
    have hx' := evA_ok hk hx
    rw [isSl_sh (ρ := ρ) h1, slOf_len ρ h1, h2] at hx'
    refine ac_calm0 (b := .tuple #[]) hw (fun tm W hkn hi => ?_) (K hg)
    simp only [execOp, CO.oper, resolve, List.map_toArray, List.map_cons, List.map_nil, ev_ok (ds := []) hkn hx', pure_bind, invoke, builtin, Builtin.clear_, Sem.run_bind]
    cases (slOf ρ u).1 <;> simp [run_underlying A.u]
  unfold sClear at h
  split at h
  · rename_i k i len kn c e k' b' hx ha
    cases hz : Nat.beq len 0 with
    | true =>
      rw [hz] at h; simp only [cond_true, Option.some.injEq] at h; subst h
      rw [Nat.beq_eq] at hz
      exact calm _ e k' b' hx ha rfl (by simp [slOf, hz]) ht hH
    | false =>
      rw [hz] at h; simp only [cond_false] at h
      have hne : len ≠ 0 := Nat.ne_of_beq_eq_false hz
      split at h
      · rename_i b zs hb hzs
        split at h
        · rename_i zv hzv
          cases h1 : all1V zv with
          | false => rw [h1] at h; cases h
          | true =>
            rw [h1] at h; simp only [cond_true] at h
            split at h
            · rename_i cs hcs
              simp only [Option.some.injEq] at h; subst h
              obtain ⟨iI, z, A⟩ := ap_ty ha
              rw [zT_ok] at hzs
              obtain ⟨z2, hz2, hz3⟩ := z_ty hzs
              have hbb := (hH k b (find_mem hb)).2
              have hzb := zeroV_bd (ofVs_bd nx hzv) len
              refine ⟨HBd.put (setsV_bd hcs hbb hzb) hH, fun ρ n s hf g ty rest Q hk hg hw K => ?_⟩
              have hx' := evA_ok hk hx
              simp only [sh] at hx'
              have hu := (hl_put (ρ := ρ) (cs := cs) hb).app hf
              have hm := bx_mem (ρ := ρ) (hf := hf) hb
              have hset := setsV_ok (ρ := ρ) (tl := if b.gr.isSome then (ρ k).tl else []) hcs
              obtain ⟨q2, q3⟩ := setsL_eq hset
              refine fun D tm W hkn hi => .inr ⟨hw n tm hkn, ?_⟩
              have ezc : (Builtin.zeroCells z2.cells len).toList = shL ρ (zeroV zv len) := zeroV_sh (by rw [hz2, ofVs_ok (ρ := ρ) hzv]) len
              have e0 := run_storeMany (ρ k).g i b.ty (shL ρ (zeroV zv len)) 0 _ W (hi.own _ hm) (by simpa using q2) (all1V_ok (zeroV_all1 h1 len))
              simp only [Nat.add_zero] at e0
              have e : (execOp (Act.eval ⟨tm, []⟩) (CO.oper ⟨none, .call ⟨.builtin .clear, #[x], #[tt]⟩, ty, g⟩)).run Tryz.prog W = .ok (.value (.tuple #[])) (setMany W (ρ k).g i (shL ρ (zeroV zv len))) := by
                simp only [execOp, CO.oper, resolve, List.map_toArray, List.map_cons, List.map_nil, ev_ok (ds := []) hkn hx', pure_bind, invoke, builtin, Builtin.clear_, Sem.run_bind]
                cases len with
                | zero => exact absurd rfl hne
                | succ len =>
                  have ez := (hz3 W).1
                  simp [run_underlying A.u, Sem.run_bind, ez, ezc, e0]
              simp only [Oper.wp, ev_defers tm D, e, Oper.upon]
              rw [show (CO.oper ⟨none, .call ⟨.builtin .clear, #[x], #[tt]⟩, ty, g⟩).dst = none from rfl, put_eq]
              have hu2 : Upd (ρ k).g b.ty (shL ρ b.cs ++ (if b.gr.isSome then (ρ k).tl else [])).toArray (setsA (shL ρ b.cs ++ (if b.gr.isSome then (ρ k).tl else [])).toArray i (shL ρ (zeroV zv len))) (hl ρ H ++ hf) (hl ρ (AHput H k cs) ++ hf) := by
                rw [q3]; exact hu
              exact ⟨rfl, s, _, hkn, hi.upds hu2, K (hg.put (setsV_len hcs) hb)⟩
            · cases h
        · cases h
      · cases h
  · rename_i p hx ha
    obtain ⟨e, k, b⟩ := p
    simp only [Option.some.injEq] at h; subst h
    exact calm _ e k b hx ha rfl rfl ht hH
  · rename_i q p hx ha
    obtain ⟨e, k, b⟩ := p
    simp only [Option.some.injEq] at h; subst h
    exact calm _ e k b hx ha rfl rfl ht hH
  · cases h
end
end
end Go.Proofs.YtpmjbobgglgnaaaGreatDoor
