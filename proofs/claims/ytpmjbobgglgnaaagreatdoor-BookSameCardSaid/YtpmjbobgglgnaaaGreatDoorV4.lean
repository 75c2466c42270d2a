/- Slices that are read, whole numbers within their kind, lengths. -/
import Derived.Test.YtpmjbobgglgnaaaGreatDoorV3
namespace Go.Proofs.YtpmjbobgglgnaaaGreatDoor
open Go.RowKit
set_option linter.unusedSimpArgs false
set_option linter.unusedVariables false
def slL : List (Nat × Nat) := [(22, 3), (23, 7), (24, 8), (25, 9), (26, 11), (29, 13), (51, 2), (84, 1), (118, 1), (119, 6), (142, 11), (148, 2), (163, 2), (175, 6), (179, 1), (185, 4), (231, 1), (233, 8), (256, 4), (267, 1), (300, 2), (337, 1), (362, 3)]
theorem sl_all : slL.all (fun (t, k) => match Tryz.prog.underlying t with
    | some (.slice e) => (match Tryz.prog.info? e with | some i => Nat.beq i.size k && Nat.blt 0 k | none => false)
    | _ => false) = true := by decide +kernel
theorem str_all : ([9, 10, 11] : List Nat).all (fun t => match Tryz.prog.underlying t with | some .string => true | _ => false) = true := by decide +kernel
theorem lkN_mem : ∀ {l : List (Nat × Nat)} {t k : Nat}, lkN l t = some k → (t, k) ∈ l
  | (i, v) :: s, t, k, h => by
    simp only [lkN] at h
    cases hb : Nat.beq i t with
    | true => rw [hb] at h; have := Nat.eq_of_beq_eq_true hb; subst this; simp only [cond_true, Option.some.injEq] at h; subst h; exact .head _
    | false => rw [hb] at h; exact .tail _ (lkN_mem h)
theorem sl_ty {t k : Nat} (h : lkN slL t = some k) : ∃ e, Tryz.prog.underlying t = some (.slice e) ∧ (∀ W, (sizeOf e).run Tryz.prog W = .ok k W) ∧ 0 < k := by
  have hc := List.all_eq_true.1 sl_all _ (lkN_mem h)
  simp only at hc
  split at hc
  · rename_i e hu
    split at hc
    · rename_i i hi
      simp only [Bool.and_eq_true] at hc
      exact ⟨e, hu, fun W => by rw [sizeOf_run hi, Nat.eq_of_beq_eq_true hc.1], by simpa [Nat.blt_eq] using hc.2⟩
    · cases hc
  · cases hc

/-- The block and the place of an address that may be missing. -/
def gOf : Option Addr → Nat
  | some a => a.block
  | none => 0
def oOf : Option Addr → Nat
  | some a => a.off
  | none => 0
/-- In every world that is held so the slice reads as xs; E: an element's cells, k: how many. -/
structure SlIn {α : Type} (E : α → List Value) (k : Nat) (w0 : World) (h : List Bx) (A : Option Addr) (xs : List α) : Prop where
  small : xs.length ≤ 9223372036854775807
  ad : xs ≠ [] → A = some ⟨gOf A, oOf A, none⟩
  lt : ∀ W, Inv w0 h W → xs ≠ [] → gOf A < W.heap.size
  cell : ∀ W, Inv w0 h W → ∀ m e, xs[m]? = some e → ∀ j u, (E e)[j]? = some u → W.cell? ⟨gOf A, oOf A + m * k + j, none⟩ = some u
theorem SlIn.mono {α : Type} {E : α → List Value} {k : Nat} {w0 : World} {h h' : List Bx} {A : Option Addr} {xs : List α} (H : SlIn E k w0 h A xs) (hs : h.Sublist h') : SlIn E k w0 h' A xs :=
  ⟨H.small, H.ad, fun W hi => H.lt W (hi.sub hs), fun W hi => H.cell W (hi.sub hs)⟩
section
variable {α : Type} {E : α → List Value} {k : Nat} {xs : List α} {A : Option Addr} {w0 : World} {n : Nat} {s : Sl} {h : List Bx} {g : Option (Option Tmp × Bool)} {dd : Option Tmp} {ty t : TypeId} {x y : Operand}
theorem y_len {len c : Nat} (hx : ev s x = some (.slice A len c)) (ht : lkN slL t = some k) (hw : Wan s g true) : Y Tryz.prog w0 n s h ⟨dd, .call ⟨.builtin .len, #[x], #[t]⟩, ty, g⟩ (.int .i64 len) := by
  obtain ⟨e, hu, _, _⟩ := sl_ty ht
  exact y_yield hw (fun tm W hk hi => by
    simp only [execOp, CO.oper, resolve, List.map_toArray, List.map_cons, List.map_nil, ev_ok (ds := []) hk hx, pure_bind, invoke, builtin, Builtin.len_, Sem.run_bind]
    simp [run_underlying hu, goInt])
theorem y_lenS {b : ByteArray} (hx : ev s x = some (.string b)) (ht : ([9, 10, 11] : List Nat).contains t = true) (hw : Wan s g true) : Y Tryz.prog w0 n s h ⟨dd, .call ⟨.builtin .len, #[x], #[t]⟩, ty, g⟩ (.int .i64 b.size) := by
  have hc := List.all_eq_true.1 str_all t (by simpa using ht)
  split at hc
  · rename_i hu
    exact y_yield hw (fun tm W hk hi => by
      simp only [execOp, CO.oper, resolve, List.map_toArray, List.map_cons, List.map_nil, ev_ok (ds := []) hk hx, pure_bind, invoke, builtin, Builtin.len_, Sem.run_bind]
      simp [run_underlying hu, goInt])
  · cases hc
theorem y_index {len c m : Nat} {i : Int} {kk : IntKind} {G O : Nat} (hx : ev s x = some (.slice A len c)) (hi : ev s y = some (.int kk i)) (ht : lkN slL t = some k) (hA : A = some ⟨G, O, none⟩) (hm : i = (m : Int)) (hlt : m < len) (hw : Wan s g true) :
    Y Tryz.prog w0 n s h ⟨dd, .indexAddr t x y, ty, g⟩ (.pointer (some ⟨G, O + m * k, none⟩)) := by
  obtain ⟨e, hu, hsz, _⟩ := sl_ty ht
  subst hA hm
  exact y_yield hw (fun tm W hk hW => by
    simp only [execOp, CO.oper, ev_ok (ds := []) hk hx, ev_ok (ds := []) hk hi, Instr.indexAt, asIntOf, pure_bind, Sem.run_bind, run_underlying hu, Result.andThen_ok]
    have h1 : (0 : Int) ≤ (m : Int) ∧ (m : Int) < (len : Int) := by omega
    simp [h1, Sem.run_bind, hsz, add0])
/-- An element's address. -/
theorem y_indexS {c m : Nat} {i : Int} {kk : IntKind} (hx : ev s x = some (.slice A xs.length c)) (hi : ev s y = some (.int kk i)) (ht : lkN slL t = some k) (hS : SlIn E k w0 h A xs) (hm : i = (m : Int)) {e : α} (he : xs[m]? = some e) (hw : Wan s g true) :
    Y Tryz.prog w0 n s h ⟨dd, .indexAddr t x y, ty, g⟩ (.pointer (some ⟨gOf A, oOf A + m * k, none⟩)) :=
  y_index hx hi ht (hS.ad (by rintro rfl; simp at he)) hm (List.getElem?_eq_some_iff.1 he).1 hw
theorem y_loadS {m j : Nat} {e : α} {u : Value} (hx : ev s x = some (.pointer (some ⟨gOf A, oOf A + m * k + j, none⟩))) (hS : SlIn E k w0 h A xs) (he : xs[m]? = some e) (ht : Nat.blt t 416 = true) (hs : lkN szL t = none)
    (hv : nth (E e) j = some u) (hw : Wan s g true) : Y Tryz.prog w0 n s h ⟨dd, .load t x, ty, g⟩ u :=
  y_yield hw (fun tm W hk hi => by
    have hc : W.cell? ⟨gOf A, oOf A + m * k + j, none⟩ = some u := hS.cell W hi m e he j u (by rw [← nth_eq]; exact hv)
    have hl : (loadVar t ⟨gOf A, oOf A + m * k + j, none⟩).run Tryz.prog W = .ok u W := by
      unfold loadVar
      rw [Sem.run_bind, (isSc ht hs W).1]
      simp [hc]
    simp only [execOp, CO.oper, ev_ok (ds := []) hk hx, loadAt_eq, Sem.run_bind, hl]; rfl)
theorem y_loadSA {m j q : Nat} {e : α} {us : List Value} (hx : ev s x = some (.pointer (some ⟨gOf A, oOf A + m * k + j, none⟩))) (hS : SlIn E k w0 h A xs) (he : xs[m]? = some e) (ht : Nat.blt t 416 = true) (hs : lkN szL t = some (q + 1))
    (hv : nths (E e) j (q + 1) = some us) (hw : Wan s g true) : Y Tryz.prog w0 n s h ⟨dd, .load t x, ty, g⟩ (.agg us.toArray) :=
  y_yield hw (fun tm W hk hi => by
    obtain ⟨h1, h2⟩ := nths_at _ hv
    have hl : (loadVar t ⟨gOf A, oOf A + m * k + j, none⟩).run Tryz.prog W = .ok (.agg us.toArray) W := by
      have hcs := run_loadCells_list (P := Tryz.prog) W ⟨gOf A, oOf A + m * k + j, none⟩ us (fun i v hj => by
        rw [add0, Nat.add_assoc]; exact hS.cell W hi m e he (j + i) v (h2 i v hj))
      unfold loadVar
      rw [Sem.run_bind, (isAg ht hs W).1]
      simp [Sem.run_bind, (isAg ht hs W).2, ← h1, hcs]
    simp only [execOp, CO.oper, ev_ok (ds := []) hk hx, loadAt_eq, Sem.run_bind, hl]; rfl)
/-- The whole element: the address without '+ 0'. -/
theorem y_loadS0 {m : Nat} {e : α} {u : Value} (hx : ev s x = some (.pointer (some ⟨gOf A, oOf A + m * k, none⟩))) (hS : SlIn E k w0 h A xs) (he : xs[m]? = some e) (ht : Nat.blt t 416 = true) (hs : lkN szL t = none)
    (hv : nth (E e) 0 = some u) (hw : Wan s g true) : Y Tryz.prog w0 n s h ⟨dd, .load t x, ty, g⟩ u := y_loadS (j := 0) hx hS he ht hs hv hw
theorem y_loadSA0 {m q : Nat} {e : α} {us : List Value} (hx : ev s x = some (.pointer (some ⟨gOf A, oOf A + m * k, none⟩))) (hS : SlIn E k w0 h A xs) (he : xs[m]? = some e) (ht : Nat.blt t 416 = true) (hs : lkN szL t = some (q + 1))
    (hv : nths (E e) 0 (q + 1) = some us) (hw : Wan s g true) : Y Tryz.prog w0 n s h ⟨dd, .load t x, ty, g⟩ (.agg us.toArray) := y_loadSA (j := 0) hx hS he ht hs hv hw
/-- The least and the greatest number of a kind. -/
def kLo : IntKind → Int
  | .i8 => -128 | .i16 => -32768 | .i32 => -2147483648 | .i64 => -9223372036854775808 | _ => 0
def kHi : IntKind → Int
  | .i8 => 127 | .i16 => 32767 | .i32 => 2147483647 | .i64 => 9223372036854775807
  | .u8 => 255 | .u16 => 65535 | .u32 => 4294967295 | .u64 => 18446744073709551615
theorem wrap_in {k : IntKind} {x : Int} (h1 : kLo k ≤ x) (h2 : x ≤ kHi k) : k.wrap x = x := by
  cases k <;> simp only [kLo, kHi] at h1 h2 <;> simp [IntKind.wrap, IntKind.signed, IntKind.bits] <;> omega
theorem y_add {k : IntKind} {a b : Int} {yt : TypeId} (hx : ev s x = some (.int k a)) (hy : ev s y = some (.int k b)) (h1 : kLo k ≤ a + b) (h2 : a + b ≤ kHi k) (hw : Wan s g true) :
    Y Tryz.prog w0 n s h ⟨dd, .binOp .add t x y yt, ty, g⟩ (.int k (a + b)) := by have := y_bin (op := .add) (w0 := w0) (n := n) (h := h) (dd := dd) (ty := ty) (t := t) (yt := yt) hx hy rfl hw; rwa [wrap_in h1 h2] at this
theorem y_sub {k : IntKind} {a b : Int} {yt : TypeId} (hx : ev s x = some (.int k a)) (hy : ev s y = some (.int k b)) (h1 : kLo k ≤ a - b) (h2 : a - b ≤ kHi k) (hw : Wan s g true) :
    Y Tryz.prog w0 n s h ⟨dd, .binOp .sub t x y yt, ty, g⟩ (.int k (a - b)) := by have := y_bin (op := .sub) (w0 := w0) (n := n) (h := h) (dd := dd) (ty := ty) (t := t) (yt := yt) hx hy rfl hw; rwa [wrap_in h1 h2] at this
end
theorem Sub.cons' {s s' : Sl} {i : Nat} {u v : Value} (h : lk s' i = some u) (e : u = v) (H : Sub s s') : Sub ((i, v) :: s) s' := Sub.cons (e ▸ h) H
end Go.Proofs.YtpmjbobgglgnaaaGreatDoor
