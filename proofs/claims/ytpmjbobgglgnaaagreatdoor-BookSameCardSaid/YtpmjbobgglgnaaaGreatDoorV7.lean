/- Strings: told by the list of their bytes; conversions from and to rows of bytes. -/
import Derived.Test.YtpmjbobgglgnaaaGreatDoorV6
import Derived.Laws.BytesString
import Derived.Laws.Strings
namespace Go.Proofs.YtpmjbobgglgnaaaGreatDoor
open Go.RowKit
set_option linter.unusedSimpArgs false
set_option linter.unusedVariables false
@[reducible] def ofL (xs : List UInt8) : ByteArray := ⟨xs.toArray⟩
theorem ofL_size (xs : List UInt8) : (ofL xs).size = xs.length := by show xs.toArray.size = _; simp
theorem ofL_get (xs : List UInt8) (m : Nat) : (ofL xs)[m]? = xs[m]? := by
  rcases Nat.lt_or_ge m xs.length with h | h
  · rw [ByteArray.getElem?_lt' _ _ (by rw [ofL_size]; exact h), List.getElem?_eq_getElem h]; rfl
  · rw [ByteArray.getElem?_ge' _ _ (by rw [ofL_size]; omega), List.getElem?_eq_none h]
theorem ofL_extract (xs : List UInt8) (l h : Nat) : (ofL xs).extract l h = ofL ((xs.take h).drop l) := by
  apply ByteArray.ext
  rw [ByteArray.data_extract]
  simp only [ofL]
  apply Array.toList_inj.1
  simp [List.drop_take]
theorem ofL_append (xs ys : List UInt8) : ofL xs ++ ofL ys = ofL (xs ++ ys) := by
  apply ByteArray.ext
  rw [ByteArray.data_append]
  simp [ofL]
def byV (b : UInt8) : Value := .int .u8 b.toNat
def bytesV (xs : List UInt8) : List Value := xs.map byV
section
variable {w0 : World} {n : Nat} {Q : AQ} {s : Sl} {h : List Bx} {rest : List CO} {g : Option (Option Tmp × Bool)} {d : Nat} {dd : Option Tmp} {ty t : TypeId} {x y : Operand} {op : Op} {xs ys : List UInt8}
theorem str_ty (ht : ([9, 10, 11] : List Nat).contains t = true) : Tryz.prog.underlying t = some .string := by
  have hc := List.all_eq_true.1 str_all t (by simpa using ht)
  split at hc
  · rename_i hu; exact hu
  · cases hc
theorem y_lenL (hx : ev s x = some (.string (ofL xs))) (ht : ([9, 10, 11] : List Nat).contains t = true) (hw : Wan s g true) : Y Tryz.prog w0 n s h ⟨dd, .call ⟨.builtin .len, #[x], #[t]⟩, ty, g⟩ (.int .i64 xs.length) := by
  have := y_lenS (w0 := w0) (n := n) (h := h) (dd := dd) (ty := ty) hx ht hw; rwa [ofL_size] at this
theorem y_stridx {i : Int} {kk : IntKind} {m : Nat} {b : UInt8} (hx : ev s x = some (.string (ofL xs))) (hi : ev s y = some (.int kk i)) (ht : ([9, 10, 11] : List Nat).contains t = true) (hm : i = (m : Int)) (he : xs[m]? = some b) (hw : Wan s g true) :
    Y Tryz.prog w0 n s h ⟨dd, .index t x y, ty, g⟩ (.int .u8 b.toNat) := y_yield hw (fun tm W hk _ => by
  subst hm
  have hu := str_ty ht
  simp only [execOp, CO.oper, ev_ok (ds := []) hk hx, ev_ok (ds := []) hk hi, Instr.index, asIntOf, pure_bind, Sem.run_bind, run_underlying hu, Result.andThen_ok]
  have h0 : (0 : Int) ≤ (m : Int) := by omega
  simp [h0, ofL_get, he])
theorem y_slLo {lo : Operand} {i : Int} {kk : IntKind} {m : Nat} (hx : ev s x = some (.string (ofL xs))) (hl : ev s lo = some (.int kk i)) (ht : ([9, 10, 11] : List Nat).contains t = true) (hm : i = (m : Int)) (h1 : m ≤ xs.length) (hw : Wan s g true) :
    Y Tryz.prog w0 n s h ⟨dd, .slice t x (some lo) none none, ty, g⟩ (.string (ofL (xs.drop m))) := y_yield hw (fun tm W hk _ => by
  subst hm
  have h0 : (0 : Int) ≤ (m : Int) ∧ (m : Int) ≤ ((ofL xs).size : Int) := by rw [ofL_size]; omega
  have hu := str_ty ht
  simp only [execOp, CO.oper, ev_ok (ds := []) hk hx, Option.map_some, Option.map_none, ev_ok (ds := []) hk hl, Instr.sliceAt, Sem.run_bind, run_underlying hu, Result.andThen_ok, Instr.slice, Instr.sliceBounds, Instr.sliceBound, asIntOf, pure_bind]
  simp [h1, Sem.run_bind, ofL_extract, ofL_size])
theorem y_slHi {hi : Operand} {i : Int} {kk : IntKind} {m : Nat} (hx : ev s x = some (.string (ofL xs))) (hl : ev s hi = some (.int kk i)) (ht : ([9, 10, 11] : List Nat).contains t = true) (hm : i = (m : Int)) (h1 : m ≤ xs.length) (hw : Wan s g true) :
    Y Tryz.prog w0 n s h ⟨dd, .slice t x none (some hi) none, ty, g⟩ (.string (ofL (xs.take m))) := y_yield hw (fun tm W hk _ => by
  subst hm
  have h0 : (0 : Int) ≤ (m : Int) ∧ (m : Int) ≤ ((ofL xs).size : Int) := by rw [ofL_size]; omega
  have hu := str_ty ht
  simp only [execOp, CO.oper, ev_ok (ds := []) hk hx, Option.map_some, Option.map_none, ev_ok (ds := []) hk hl, Instr.sliceAt, Sem.run_bind, run_underlying hu, Result.andThen_ok, Instr.slice, Instr.sliceBounds, Instr.sliceBound, asIntOf, pure_bind]
  simp [h1, Sem.run_bind, ofL_extract, ofL_size])
theorem y_slLH {lo hi : Operand} {i j : Int} {kk kl : IntKind} {m q : Nat} (hx : ev s x = some (.string (ofL xs))) (hl : ev s lo = some (.int kk i)) (hh : ev s hi = some (.int kl j)) (ht : ([9, 10, 11] : List Nat).contains t = true) (hm : i = (m : Int)) (hq : j = (q : Int)) (h1 : m ≤ q) (h2 : q ≤ xs.length) (hw : Wan s g true) :
    Y Tryz.prog w0 n s h ⟨dd, .slice t x (some lo) (some hi) none, ty, g⟩ (.string (ofL ((xs.take q).drop m))) := y_yield hw (fun tm W hk _ => by
  subst hm hq
  have h0 : (0 : Int) ≤ (q : Int) ∧ (q : Int) ≤ ((ofL xs).size : Int) := by rw [ofL_size]; omega
  have h3 : (0 : Int) ≤ (m : Int) ∧ (m : Int) ≤ (q : Int) := by omega
  have hu := str_ty ht
  simp only [execOp, CO.oper, ev_ok (ds := []) hk hx, Option.map_some, Option.map_none, ev_ok (ds := []) hk hl, ev_ok (ds := []) hk hh, Instr.sliceAt, Sem.run_bind, run_underlying hu, Result.andThen_ok, Instr.slice, Instr.sliceBounds, Instr.sliceBound, asIntOf, pure_bind]
  simp [h1, h2, Sem.run_bind, ofL_extract, ofL_size])
theorem y_cat {yt : TypeId} (hx : ev s x = some (.string (ofL xs))) (hy : ev s y = some (.string (ofL ys))) (hl : xs.length + ys.length ≤ 9223372036854775807) (hw : Wan s g true) :
    Y Tryz.prog w0 n s h ⟨dd, .binOp .add t x y yt, ty, g⟩ (.string (ofL (xs ++ ys))) := y_yield hw (fun tm W hk _ => by
  have h1 : ¬ (((xs.length + ys.length : Nat) : Int) > IntKind.i64.max) := by
    have : IntKind.i64.max = 9223372036854775807 := by decide
    omega
  simp only [execOp, CO.oper, ev_ok (ds := []) hk hx, ev_ok (ds := []) hk hy, eqGuard, binOp, Op.stringOp, ofL_size, h1, if_false, ofL_append]
  rfl)
theorem y_streq {yt : TypeId} (hx : ev s x = some (.string (ofL xs))) (hy : ev s y = some (.string (ofL ys))) (hw : Wan s g true) :
    Y Tryz.prog w0 n s h ⟨dd, .binOp .eql t x y yt, ty, g⟩ (.bool (xs == ys)) := y_yield hw (fun tm W hk _ => by
  simp only [execOp, CO.oper, ev_ok (ds := []) hk hx, ev_ok (ds := []) hk hy, eqGuard, binOp, Op.stringOp, ByteArray.toList_mk]
  rfl)
theorem y_strne {yt : TypeId} (hx : ev s x = some (.string (ofL xs))) (hy : ev s y = some (.string (ofL ys))) (hw : Wan s g true) :
    Y Tryz.prog w0 n s h ⟨dd, .binOp .neq t x y yt, ty, g⟩ (.bool !(xs == ys)) := y_yield hw (fun tm W hk _ => by
  simp only [execOp, CO.oper, ev_ok (ds := []) hk hx, ev_ok (ds := []) hk hy, eqGuard, binOp, Op.stringOp, ByteArray.toList_mk]
  rfl)
end
end Go.Proofs.YtpmjbobgglgnaaaGreatDoor
