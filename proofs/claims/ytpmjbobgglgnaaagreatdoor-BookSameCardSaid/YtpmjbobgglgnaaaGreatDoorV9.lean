/- Rows of one's own, handed on as slices that are read. -/
import Derived.Test.YtpmjbobgglgnaaaGreatDoorV8
namespace Go.Proofs.YtpmjbobgglgnaaaGreatDoor
open Go.RowKit
set_option linter.unusedSimpArgs false
set_option linter.unusedVariables false
theorem sub_app {α : Type} {a b c : List α} (H : a.Sublist c) : a.Sublist (b ++ c) := H.trans (List.sublist_append_right _ _)
theorem sub_own {α : Type} {a b c : List α} (H : b.Sublist c) : (a ++ b).Sublist (a ++ c) := List.Sublist.append_left H _
theorem OwnR.row {e : TypeId} {k len : Nat} {cells : List Value} {v : Value} {hb : List Bx} (H : OwnR e k cells len v hb) (h1 : all1 cells = true) : ∃ A c, v = .slice A len c ∧ ∀ (w0 : World) (h : List Bx), hb.Sublist h → RowIn k w0 h A len cells := by
  rcases H with ⟨rfl, rfl, rfl, rfl⟩ | ⟨r, c, sp, rfl, rfl, hl, ht, hle⟩
  · exact ⟨none, 0, rfl, fun w0 h _ => ⟨by simp, fun h => absurd rfl h, rfl, fun _ _ j v hj => by simp at hj⟩⟩
  · exact ⟨_, c, rfl, fun w0 h hs => RowIn.own (hs.subset (List.Mem.head _)) (sp := sp) (by simp) hl h1⟩
theorem OwnR.sl {α : Type} {E : α → List Value} {e : TypeId} {k : Nat} {xs : List α} {v : Value} {hb : List Bx} (H : OwnR e k (xs.flatMap E) xs.length v hb) (hE : ∀ e, (E e).length = k) (h1 : ∀ e, all1 (E e) = true) (hk : 0 < k) (hsm : xs.length ≤ 9223372036854775807) :
    ∃ A c, v = .slice A xs.length c ∧ ∀ (w0 : World) (h : List Bx), hb.Sublist h → SlIn E k w0 h A xs := by
  obtain ⟨A, c, e1, hr⟩ := H.row (flat_all1 h1 xs)
  exact ⟨A, c, e1, fun w0 h hs => (hr w0 h hs).sl hE hk hsm⟩
def byE (b : UInt8) : List Value := [.int .u8 b.toNat]
theorem byE_flat (xs : List UInt8) : xs.flatMap byE = bytesV xs := by
  induction xs with
  | nil => rfl
  | cons x xs ih => simp [List.flatMap_cons, ih, byE, bytesV, byV]
section
variable {w0 : World} {n : Nat} {Q : AQ} {s : Sl} {h : List Bx} {rest : List CO} {g : Option (Option Tmp × Bool)} {d : Nat} {ty t u : TypeId} {x : Operand} {xs : List UInt8}
theorem ac_bytesS (hx : ev s x = some (.string (ofL xs))) (hs : ([9, 10, 11] : List Nat).contains t = true) (ht : ([267] : List Nat).contains u = true) (hsm : xs.length ≤ 9223372036854775807) (hw : Wan s g true) (hd : Nat.blt d n = true)
    (H : ∀ A c hb, OwnR 5 1 (bytesV xs) xs.length (.slice A xs.length c) hb → SlIn byE 1 w0 (hb ++ h) A xs → AC Tryz.prog w0 n Q rest ((d, .slice A xs.length c) :: s) (hb ++ h)) : AC Tryz.prog w0 n Q (⟨some d, .convert t u x, ty, g⟩ :: rest) s h :=
  ac_bytes hx hs ht hw hd (fun v' hb' hO => by
    have hO' := hO
    rw [← byE_flat] at hO'
    obtain ⟨A, c, rfl, hr⟩ := hO'.sl (fun _ => rfl) (fun _ => rfl) (by decide) hsm
    exact H A c hb' hO (hr w0 _ (List.sublist_append_left _ _)))
theorem y_neg {dd : Option Tmp} {k : IntKind} {a : Int} (hx : ev s x = some (.int k a)) (h1 : kLo k ≤ 0 - a) (h2 : 0 - a ≤ kHi k) (hw : Wan s g true) : Y Tryz.prog w0 n s h ⟨dd, .unOp .neg t x, ty, g⟩ (.int k (0 - a)) :=
  y_yield hw (fun tm W hk _ => by
    rw [show execOp (Act.eval ⟨tm, []⟩) (CO.oper ⟨dd, .unOp .neg t x, ty, g⟩) = (do pure (.value (← Op.unary .neg (Act.eval ⟨tm, []⟩ x)))) from rfl, ev_ok (ds := []) hk hx]
    rw [← wrap_in h1 h2]; rfl)
/-- A join: what is told of the slots and blocks where ways come together. -/
theorem aw_join {c : Code} {K : Sl → List Bx → Prop} (S : Sl) (B : List Bx) (H2 : ∀ s' h', Sub S s' → B.Sublist h' → K s' h') (H1 : AW Tryz.prog w0 n c (aThen (fun s' h' => Sub S s' ∧ B.Sublist h') Q) s h) : AW Tryz.prog w0 n c (aThen K Q) s h :=
  fun D tm W hk hi => wp_mono (H1 D tm W hk hi) fun e a W' ⟨s', h', h1, h2, h3, h4⟩ => ⟨s', h', h1, h2, h3, by
    cases e with
    | normal => exact H2 s' h' h4.1 h4.2
    | _ => exact h4⟩
end
end Go.Proofs.YtpmjbobgglgnaaaGreatDoor
