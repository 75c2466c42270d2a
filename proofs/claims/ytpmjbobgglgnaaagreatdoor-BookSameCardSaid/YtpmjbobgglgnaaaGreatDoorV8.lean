/- Conversions. -/
import Derived.Test.YtpmjbobgglgnaaaGreatDoorV7
namespace Go.Proofs.YtpmjbobgglgnaaaGreatDoor
open Go.RowKit
set_option linter.unusedSimpArgs false
set_option linter.unusedVariables false
def ikL : List (Nat × IntKind) := [(2, .i64), (3, .i64), (5, .u8), (6, .u8), (12, .u64), (21, .i32), (33, .u64), (39, .i64), (74, .u64), (306, .i64), (315, .u32), (346, .u64), (405, .u8), (406, .u8), (409, .i32), (410, .i32)]
def lkI : List (Nat × IntKind) → Nat → Option IntKind
  | [], _ => none
  | (i, v) :: s, j => bif Nat.beq i j then some v else lkI s j
theorem ik_all : ikL.all (fun (t, k) => match Tryz.prog.underlying t with | some (.int l) => decide (l = k) | _ => false) = true := by decide +kernel
theorem lkI_mem : ∀ {l : List (Nat × IntKind)} {t : Nat} {v : IntKind}, lkI l t = some v → (t, v) ∈ l
  | (i, u) :: s, t, v, h => by
    simp only [lkI] at h
    cases hb : Nat.beq i t with
    | true => rw [hb] at h; have := Nat.eq_of_beq_eq_true hb; subst this; simp only [cond_true, Option.some.injEq] at h; subst h; exact .head _
    | false => rw [hb] at h; exact .tail _ (lkI_mem h)
theorem ik_ty {t : Nat} {k : IntKind} (h : lkI ikL t = some k) : Tryz.prog.underlying t = some (.int k) := by
  have hc := List.all_eq_true.1 ik_all _ (lkI_mem h)
  simp only at hc
  split at hc
  · rename_i l hu
    rw [hu, of_decide_eq_true hc]
  · cases hc
theorem by_all : ([267] : List Nat).all (fun t => match Tryz.prog.underlying t with | some (.slice e) => Nat.beq e 5 | _ => false) = true := by decide +kernel
theorem by_ty {t : Nat} (ht : ([267] : List Nat).contains t = true) : Tryz.prog.underlying t = some (.slice 5) := by
  have hc := List.all_eq_true.1 by_all t (by simpa using ht)
  split at hc
  · rename_i e hu
    rw [hu, Nat.eq_of_beq_eq_true hc]
  · cases hc
theorem freeze_new (W : World) (cs : Array Value) (t : TypeId) : (W.alloc (.cells cs t)).freeze { block := W.heap.size, off := cs.size } 1 = W.alloc (.cells cs t (cs.size, cs.size + 1)) := by
  have e : (W.heap.push (.cells cs t (0, 0))).modify W.heap.size (fun
      | .cells c elem (lo, hi) => .cells c elem (if lo == hi then (cs.size, cs.size + 1) else (min lo cs.size, max hi (cs.size + 1)))
      | o => o) = W.heap.push (.cells cs t (cs.size, cs.size + 1)) := by
    apply Array.ext
    · simp
    · intro i h1 h2
      rw [Array.getElem_modify]
      by_cases hi : W.heap.size = i
      · subst hi; simp
      · rw [if_neg hi]
        simp only [Array.size_modify, Array.size_push] at h1
        rw [Array.getElem_push_lt (by omega), Array.getElem_push_lt (by omega)]
  unfold World.freeze
  rw [if_neg (by omega)]
  have e2 : ∀ h2, ({ W.alloc (.cells cs t) with heap := h2 } : World) = { W with heap := h2 } := fun _ => rfl
  rw [e2]
  have e3 : W.alloc (.cells cs t (cs.size, cs.size + 1)) = { W with heap := W.heap.push (.cells cs t (cs.size, cs.size + 1)) } := rfl
  rw [e3, ← e]
  rfl
def zeroB (k : Nat) : List Value := List.replicate k (.int .u8 0)
section
variable {w0 : World} {n : Nat} {Q : AQ} {s : Sl} {h : List Bx} {rest : List CO} {g : Option (Option Tmp × Bool)} {d : Nat} {dd : Option Tmp} {ty t u : TypeId} {x y : Operand} {op : Op} {xs ys : List UInt8}
theorem y_convW {k l : IntKind} {a : Int} (hx : ev s x = some (.int l a)) (hs : lkI ikL t = some l) (ht : lkI ikL u = some k) (hw : Wan s g true) : Y Tryz.prog w0 n s h ⟨dd, .convert t u x, ty, g⟩ (.int k (k.wrap a)) :=
  y_yield hw (fun tm W hk _ => by
    have h1 := ik_ty hs
    have h2 := ik_ty ht
    simp only [execOp, CO.oper, ev_ok (ds := []) hk hx, convert, Sem.run_bind, run_underlying h1, run_underlying h2, Result.andThen_ok, Conv.intToInt]
    rfl)
theorem y_conv {k l : IntKind} {a : Int} (hx : ev s x = some (.int l a)) (hs : lkI ikL t = some l) (ht : lkI ikL u = some k) (h1 : kLo k ≤ a) (h2 : a ≤ kHi k) (hw : Wan s g true) : Y Tryz.prog w0 n s h ⟨dd, .convert t u x, ty, g⟩ (.int k a) := by
  have := y_convW (w0 := w0) (n := n) (h := h) (dd := dd) (ty := ty) hx hs ht hw; rwa [wrap_in h1 h2] at this
theorem drew_alloc_size (W : World) : W.drew.heap.size = W.heap.size := rfl
/-- A string's bytes as a row of one's own. -/
theorem ac_bytes (hx : ev s x = some (.string (ofL xs))) (hs : ([9, 10, 11] : List Nat).contains t = true) (ht : ([267] : List Nat).contains u = true) (hw : Wan s g true) (hd : Nat.blt d n = true)
    (H : ∀ v' hb', OwnR 5 1 (bytesV xs) xs.length v' hb' → AC Tryz.prog w0 n Q rest ((d, v') :: s) (hb' ++ h)) : AC Tryz.prog w0 n Q (⟨some d, .convert t u x, ty, g⟩ :: rest) s h := fun D tm W hk hi => .inr ⟨hw n tm hk, by
    have h1 := str_ty hs
    have h2 := by_ty ht
    have h3 : Tryz.prog.underlying 5 = some (.int .u8) := ik_ty rfl
    have hge := grownCap_ge W xs.length 0 5
    have e1 : (Conv.stringToBytes 5 (ofL xs)).run Tryz.prog W = .ok (.slice (some ⟨W.heap.size, 0, none⟩) xs.length (grownCap W xs.length 0 5))
        (W.drew.alloc (.cells (bytesV xs ++ zeroB (grownCap W xs.length 0 5 - xs.length)).toArray 5 ((bytesV xs ++ zeroB (grownCap W xs.length 0 5 - xs.length)).toArray.size, (bytesV xs ++ zeroB (grownCap W xs.length 0 5 - xs.length)).toArray.size + 1))) := by
      have hel : ((ofL xs).data.map fun b => Value.int .u8 b.toNat) ++ Array.replicate (grownCap W xs.length 0 5 - (ofL xs).size) (.int .u8 0) = (bytesV xs ++ zeroB (grownCap W xs.length 0 5 - xs.length)).toArray := by
        apply Array.toList_inj.1
        simp [bytesV, byV, zeroB, ofL_size]
      have hsh : (W.drew.alloc (.cells (bytesV xs ++ zeroB (grownCap W xs.length 0 5 - xs.length)).toArray 5)).shape? W.heap.size = some (5, (bytesV xs ++ zeroB (grownCap W xs.length 0 5 - xs.length)).toArray.size) := by
        unfold World.shape?
        rw [show (W.drew.alloc (.cells (bytesV xs ++ zeroB (grownCap W xs.length 0 5 - xs.length)).toArray 5)).heap[W.heap.size]? = some (.cells (bytesV xs ++ zeroB (grownCap W xs.length 0 5 - xs.length)).toArray 5) from heap_alloc_new W.drew _]
      rw [← freeze_new]
      unfold Conv.stringToBytes
      have hch : (choose (Question.appendCap (ofL xs).size 0 5)).run Tryz.prog W = .ok (grownCap W xs.length 0 5) W.drew := by
        rw [ofL_size]
        simp [Question.forced, grownCap]
      simp only [Sem.run_bind, hch, Result.andThen_ok]
      have hel' : (Array.map (fun b => Value.int .u8 b.toNat) xs.toArray ++ Array.replicate (grownCap W xs.length 0 5 - (ofL xs).size) (.int .u8 0)) = (bytesV xs ++ zeroB (grownCap W xs.length 0 5 - xs.length)).toArray := hel
      rw [hel']
      simp only [newRow, Sem.run_bind, run_newObj_alloc, Result.andThen_ok, Sem.run_pure, markStringish]
      have hshr : (shape W.drew.heap.size).run Tryz.prog (W.drew.alloc (.cells (bytesV xs ++ zeroB (grownCap W xs.length 0 5 - xs.length)).toArray 5)) = .ok (some (5, (bytesV xs ++ zeroB (grownCap W xs.length 0 5 - xs.length)).toArray.size)) (W.drew.alloc (.cells (bytesV xs ++ zeroB (grownCap W xs.length 0 5 - xs.length)).toArray 5)) := by
        show Result.ok (World.shape? _ _) _ = _
        rw [show W.drew.heap.size = W.heap.size from rfl, hsh]
      rw [hshr]
      simp only [Result.andThen_ok, run_freeze, ofL_size, Sem.run_pure]
      rfl
    have e : (execOp (Act.eval ⟨tm, []⟩) (CO.oper ⟨some d, .convert t u x, ty, g⟩)).run Tryz.prog W = .ok (.value (.slice (some ⟨W.heap.size, 0, none⟩) xs.length (grownCap W xs.length 0 5)))
        (W.drew.alloc (.cells (bytesV xs ++ zeroB (grownCap W xs.length 0 5 - xs.length)).toArray 5 ((bytesV xs ++ zeroB (grownCap W xs.length 0 5 - xs.length)).toArray.size, (bytesV xs ++ zeroB (grownCap W xs.length 0 5 - xs.length)).toArray.size + 1))) := by
      simp only [execOp, CO.oper, ev_ok (ds := []) hk hx, convert, Sem.run_bind, run_underlying h1, run_underlying h2, run_underlying h3, Result.andThen_ok, e1]
      rfl
    simp only [Oper.wp, ev_defers tm D, e, Oper.upon]
    rw [show (CO.oper ⟨some d, .convert t u x, ty, g⟩).dst = some d from rfl, put_eq]
    refine ⟨rfl, _, _, hk.put hd, hi.drew.allocF _ 5 _ (.inr (Nat.le_refl _)), H (.slice (some ⟨W.heap.size, 0, none⟩) xs.length (grownCap W xs.length 0 5)) [⟨W.heap.size, _, 5⟩] (.inr ⟨W.heap.size, grownCap W xs.length 0 5, zeroB (grownCap W xs.length 0 5 - xs.length), rfl, rfl, by simp [bytesV], ?_, hge⟩)⟩
    simp [bytesV, zeroB]; omega⟩
/-- A row of bytes as a string. -/
theorem y_bts {A : Option Addr} {c m : Nat} (hx : ev s x = some (.slice A m c)) (hN : RowIn 1 w0 h A m (bytesV xs)) (hs : ([267] : List Nat).contains t = true) (ht : ([9, 10, 11] : List Nat).contains u = true) (hw : Wan s g true) :
    Y Tryz.prog w0 n s h ⟨dd, .convert t u x, ty, g⟩ (.string (ofL xs)) := y_yield hw (fun tm W hk hi => by
  have h1 := by_ty hs
  have h2 := str_ty ht
  have h3 : Tryz.prog.underlying 5 = some (.int .u8) := ik_ty rfl
  have hlen : xs.length = m := by have := hN.len; simpa [bytesV] using this
  have fold : ∀ (l : List UInt8) (r : ByteArray), (l.map fun b => (b.toNat : Int)).foldl (fun r n => r.push (UInt8.ofNat n.toNat)) r = r ++ ofL l := fun l => by
    induction l with
    | nil => intro r; apply ByteArray.ext; rw [ByteArray.data_append]; simp [ofL]
    | cons b l ih =>
      intro r
      simp only [List.map_cons, List.foldl_cons, ih]
      apply ByteArray.ext
      rw [ByteArray.data_append, ByteArray.data_append]
      simp [ofL]
  have e1 : (Conv.bytesToString (.slice A m c)).run Tryz.prog W = .ok (.string (ofL xs)) W := by
    cases A with
    | none =>
      have hm : m = 0 := by
        cases m with
        | zero => rfl
        | succ m => have := hN.ad (by omega); cases this
      have hx0 : xs = [] := List.length_eq_zero_iff.1 (hlen.trans hm)
      subst hx0
      rfl
    | some a =>
      have hl : (loadCells a m).run Tryz.prog W = .ok ((xs.map fun b => (b.toNat : Int)).map (Value.int .u8)).toArray W := by
        have := run_loadCells_list (P := Tryz.prog) W a (bytesV xs) (fun j v hj => by
          have hm : m ≠ 0 := by
            rintro rfl
            rw [List.length_eq_zero_iff.1 hlen] at hj
            simp [bytesV] at hj
          have ha := hN.ad hm
          rw [Option.some.injEq] at ha
          rw [ha, add0]
          exact hN.cell W hi j v hj)
        rw [show (bytesV xs).length = m by simpa [bytesV] using hlen] at this
        rw [this]
        simp [bytesV, byV, Function.comp_def]
      rw [run_bytesToString W a m c _ hl, fold]
      congr 2
  simp only [execOp, CO.oper, ev_ok (ds := []) hk hx, convert, Sem.run_bind, run_underlying h1, run_underlying h2, run_underlying h3, Result.andThen_ok, e1]
  rfl)
end
end Go.Proofs.YtpmjbobgglgnaaaGreatDoor
