/- Quotients, rests, products and shifts to the right. -/
import Derived.Test.YtpmjbobgglgnaaaGreatDoorV9
namespace Go.Proofs.YtpmjbobgglgnaaaGreatDoor
open Go.RowKit
set_option linter.unusedVariables false
set_option linter.unusedSimpArgs false
section
variable {w0 : World} {n : Nat} {s : Sl} {h : List Bx} {dd : Option Tmp} {x y : Operand} {ty t yt : TypeId} {g : Option (Option Tmp × Bool)}
theorem y_quo {k : IntKind} {a b : Int} (hx : ev s x = some (.int k a)) (hy : ev s y = some (.int k b)) (hb : b ≠ 0) (hw : Wan s g true) :
    Y Tryz.prog w0 n s h ⟨dd, .binOp .quo t x y yt, ty, g⟩ (.int k (k.wrap (a.tdiv b))) :=
  y_yield hw (fun tm W hk _ => by
    simp only [execOp, CO.oper, ev_ok (ds := []) hk hx, ev_ok (ds := []) hk hy]
    simp [eqGuard, binOp, Op.intDiv, hb, Sem.run_bind])
theorem y_rem {k : IntKind} {a b : Int} (hx : ev s x = some (.int k a)) (hy : ev s y = some (.int k b)) (hb : b ≠ 0) (hw : Wan s g true) :
    Y Tryz.prog w0 n s h ⟨dd, .binOp .rem t x y yt, ty, g⟩ (.int k (a.tmod b)) :=
  y_yield hw (fun tm W hk _ => by
    simp only [execOp, CO.oper, ev_ok (ds := []) hk hx, ev_ok (ds := []) hk hy]
    simp [eqGuard, binOp, Op.intDiv, hb, Sem.run_bind])
theorem y_quoN {k : IntKind} {a b : Int} (hx : ev s x = some (.int k a)) (hy : ev s y = some (.int k b)) (ha : 0 ≤ a) (hb : 0 < b) (h2 : a ≤ kHi k) (hw : Wan s g true) :
    Y Tryz.prog w0 n s h ⟨dd, .binOp .quo t x y yt, ty, g⟩ (.int k (a / b)) := by
  have := y_quo (w0 := w0) (n := n) (h := h) (dd := dd) (ty := ty) (t := t) (yt := yt) hx hy (by omega) hw
  have h0 : 0 ≤ a / b := Int.ediv_nonneg ha (by omega)
  have h1 : a / b ≤ a := Int.ediv_le_self _ ha
  rwa [Int.tdiv_eq_ediv_of_nonneg ha, wrap_in (by cases k <;> simp only [kLo] <;> omega) (by omega)] at this
theorem y_remN {k : IntKind} {a b : Int} (hx : ev s x = some (.int k a)) (hy : ev s y = some (.int k b)) (ha : 0 ≤ a) (hb : 0 < b) (hw : Wan s g true) :
    Y Tryz.prog w0 n s h ⟨dd, .binOp .rem t x y yt, ty, g⟩ (.int k (a % b)) := by
  have := y_rem (w0 := w0) (n := n) (h := h) (dd := dd) (ty := ty) (t := t) (yt := yt) hx hy (by omega) hw
  rwa [Int.tmod_eq_emod_of_nonneg ha] at this
theorem y_mul {k : IntKind} {a b : Int} (hx : ev s x = some (.int k a)) (hy : ev s y = some (.int k b)) (h1 : kLo k ≤ a * b) (h2 : a * b ≤ kHi k) (hw : Wan s g true) :
    Y Tryz.prog w0 n s h ⟨dd, .binOp .mul t x y yt, ty, g⟩ (.int k (a * b)) := by have := y_bin (op := .mul) (w0 := w0) (n := n) (h := h) (dd := dd) (ty := ty) (t := t) (yt := yt) hx hy rfl hw; rwa [wrap_in h1 h2] at this
theorem y_shr {k l : IntKind} {a b : Int} (hx : ev s x = some (.int k a)) (hy : ev s y = some (.int l b)) (hb : 0 ≤ b) (hw : Wan s g true) :
    Y Tryz.prog w0 n s h ⟨dd, .binOp .shr t x y yt, ty, g⟩ (.int k (a.fdiv (2 ^ (min b.toNat k.bits)))) :=
  y_yield hw (fun tm W hk _ => by
    have hb' : ¬ b < 0 := by omega
    simp only [execOp, CO.oper, ev_ok (ds := []) hk hx, ev_ok (ds := []) hk hy]
    simp [eqGuard, binOp, Op.shift, hb', Sem.run_bind])
end
/-! ### Tables as trees -/
inductive FT (α : Type) where
  | e
  | n (l : FT α) (k : Nat) (v : α) (r : FT α)
def FT.at {α : Type} : FT α → Nat → Option α
  | .e, _ => none
  | .n l k v r, t => bif Nat.beq t k then some v else bif Nat.ble t k then l.at t else r.at t
def FT.all {α : Type} (p : Nat → α → Bool) : FT α → Bool
  | .e => true
  | .n l k v r => p k v && l.all p && r.all p
theorem FT.at_all {α : Type} {p : Nat → α → Bool} : ∀ {T : FT α} {t : Nat} {v : α}, T.at t = some v → T.all p = true → p t v = true
  | .e, _, _, h, _ => by cases h
  | .n l k u r, t, v, h, ha => by
    simp only [FT.all, Bool.and_eq_true] at ha
    simp only [FT.at] at h
    cases hb : Nat.beq t k with
    | true => rw [hb] at h; have := Nat.eq_of_beq_eq_true hb; subst this; simp only [cond_true, Option.some.injEq] at h; subst h; exact ha.1.1
    | false =>
      rw [hb] at h
      cases hc : Nat.ble t k with
      | true => rw [hc] at h; exact FT.at_all h ha.1.2
      | false => rw [hc] at h; exact FT.at_all h ha.2
def szF : FT Nat := (.n (.n (.n (.n (.n (.n (.n .e 0 0 .e) 7 4 (.n .e 8 4 .e)) 13 2 (.n (.n .e 14 2 .e) 18 1 (.n .e 19 1 .e))) 27 7 (.n (.n (.n .e 28 7 .e) 31 4 (.n .e 32 4 .e)) 34 3 (.n (.n .e 35 3 .e) 36 13 .e))) 37 13 (.n (.n (.n (.n .e 40 0 .e) 52 0 (.n .e 54 2 .e)) 55 2 (.n (.n .e 56 3 .e) 57 3 (.n .e 58 7 .e))) 59 7 (.n (.n (.n .e 60 8 .e) 61 8 (.n .e 62 9 .e)) 63 9 (.n (.n .e 64 3 .e) 65 3 .e)))) 66 11 (.n (.n (.n (.n (.n .e 67 11 .e) 72 0 (.n .e 77 0 .e)) 80 0 (.n (.n .e 82 0 .e) 87 0 (.n .e 93 0 .e))) 97 0 (.n (.n (.n .e 121 2 .e) 122 6 (.n .e 123 6 .e)) 132 0 (.n (.n .e 134 0 .e) 137 2 .e))) 140 3 (.n (.n (.n (.n .e 141 3 .e) 143 5 (.n .e 144 5 .e)) 145 0 (.n (.n .e 158 0 .e) 172 0 (.n .e 177 6 .e))) 178 6 (.n (.n (.n .e 180 0 .e) 183 0 (.n .e 186 1 .e)) 187 1 (.n (.n .e 188 4 .e) 189 4 .e))))) 192 9 (.n (.n (.n (.n (.n (.n .e 193 9 .e) 197 0 (.n .e 200 0 .e)) 203 0 (.n (.n .e 213 1 .e) 214 1 (.n .e 219 2 .e))) 220 2 (.n (.n (.n .e 228 0 .e) 232 0 (.n .e 234 0 .e)) 236 2 (.n (.n .e 237 2 .e) 239 3 .e))) 240 3 (.n (.n (.n (.n .e 241 8 .e) 242 8 (.n .e 251 6 .e)) 252 6 (.n (.n .e 261 0 .e) 273 3 (.n .e 277 8 .e))) 279 0 (.n (.n (.n .e 282 1 .e) 283 1 (.n .e 285 5 .e)) 286 0 (.n (.n .e 291 2 .e) 292 2 .e)))) 296 0 (.n (.n (.n (.n (.n .e 298 11 .e) 299 11 (.n .e 301 0 .e)) 303 2 (.n (.n .e 304 2 .e) 307 0 (.n .e 312 0 .e))) 326 0 (.n (.n (.n .e 333 0 .e) 338 0 (.n .e 340 0 .e)) 359 5 (.n (.n .e 360 5 .e) 365 3 .e))) 366 3 (.n (.n (.n (.n .e 367 0 .e) 371 0 (.n .e 378 0 .e)) 388 0 (.n (.n .e 394 20 .e) 395 50 .e)) 399 4 (.n (.n (.n .e 400 4 .e) 401 0 (.n .e 402 0 .e)) 403 0 (.n (.n .e 411 11 .e) 412 11 .e))))))
def fdF : FT (List Nat) := (.n (.n (.n (.n (.n (.n (.n .e 7 [0, 1, 2, 3] .e) 8 [0, 1, 2, 3] .e) 13 [0, 1] (.n .e 14 [0, 1] .e)) 18 [0] (.n (.n (.n .e 19 [0] .e) 27 [0, 1, 2, 3, 4, 5, 6] .e) 28 [0, 1, 2, 3, 4, 5, 6] (.n .e 31 [0, 1, 2, 3] .e))) 32 [0, 1, 2, 3] (.n (.n (.n (.n .e 34 [0, 1, 2] .e) 35 [0, 1, 2] .e) 36 [0, 1, 2, 6, 7, 10, 11, 12] (.n .e 37 [0, 1, 2, 6, 7, 10, 11, 12] .e)) 54 [0, 1] (.n (.n .e 55 [0, 1] .e) 56 [0, 2] (.n .e 57 [0, 2] .e)))) 58 [0, 4] (.n (.n (.n (.n (.n .e 59 [0, 4] .e) 60 [0, 4, 5, 6, 7] .e) 61 [0, 4, 5, 6, 7] (.n .e 62 [0, 1, 2, 3, 7, 8] .e)) 63 [0, 1, 2, 3, 7, 8] (.n (.n .e 64 [0, 2] .e) 65 [0, 2] (.n .e 66 [0, 1, 4, 5, 9, 10] .e))) 67 [0, 1, 4, 5, 9, 10] (.n (.n (.n (.n .e 122 [0, 4] .e) 123 [0, 4] .e) 137 [0, 1] (.n .e 140 [0, 1, 2] .e)) 141 [0, 1, 2] (.n (.n .e 143 [0, 1, 4] .e) 144 [0, 1, 4] (.n .e 177 [0, 4, 5] .e))))) 178 [0, 4, 5] (.n (.n (.n (.n (.n (.n .e 186 [0] .e) 187 [0] .e) 188 [0, 2, 3] (.n .e 189 [0, 2, 3] .e)) 192 [0, 3, 4, 8] (.n (.n .e 193 [0, 3, 4, 8] .e) 213 [0] (.n .e 214 [0] .e))) 219 [0, 1] (.n (.n (.n (.n .e 220 [0, 1] .e) 236 [0, 1] .e) 237 [0, 1] (.n .e 239 [0, 1, 2] .e)) 240 [0, 1, 2] (.n (.n .e 241 [0, 1, 2, 3, 7] .e) 242 [0, 1, 2, 3, 7] (.n .e 251 [0, 1, 2, 3, 4, 5] .e)))) 252 [0, 1, 2, 3, 4, 5] (.n (.n (.n (.n (.n .e 273 [0, 1, 2] .e) 282 [0] .e) 283 [0] (.n .e 291 [0, 1] .e)) 292 [0, 1] (.n (.n .e 298 [0, 1, 4, 8, 9, 10] .e) 299 [0, 1, 4, 8, 9, 10] (.n .e 303 [0, 1] .e))) 304 [0, 1] (.n (.n (.n (.n .e 359 [0, 2, 4] .e) 360 [0, 2, 4] .e) 365 [0, 1, 2] (.n .e 366 [0, 1, 2] .e)) 399 [0, 1, 2, 3] (.n (.n .e 400 [0, 1, 2, 3] .e) 411 [0, 1, 2, 3, 4, 5, 6, 7, 8, 9, 10] (.n .e 412 [0, 1, 2, 3, 4, 5, 6, 7, 8, 9, 10] .e))))))
def slF : FT Nat := (.n (.n (.n (.n (.n .e 22 3 .e) 23 7 .e) 24 8 (.n (.n .e 25 9 .e) 26 11 .e)) 29 13 (.n (.n (.n .e 51 2 .e) 84 1 .e) 118 1 (.n (.n .e 119 6 .e) 142 11 .e))) 148 2 (.n (.n (.n (.n .e 163 2 .e) 175 6 .e) 179 1 (.n (.n .e 185 4 .e) 231 1 .e)) 233 8 (.n (.n (.n .e 256 4 .e) 267 1 .e) 300 2 (.n (.n .e 337 1 .e) 362 3 .e))))
def zF : FT (List Value) := (.n (.n (.n (.n (.n (.n .e 2 [(.int .i64 0)] .e) 3 [(.int .i64 0)] (.n .e 4 [(.bool false)] .e)) 5 [(.int .u8 0)] (.n (.n .e 9 [(.string ⟨#[]⟩)] .e) 28 [.int .i64 0, .slice none 0 0, .slice none 0 0, .slice none 0 0, .slice none 0 0, .slice none 0 0, .int .i64 0] .e)) 32 [.int .i64 0, .int .i64 0, .int .i64 0, .int .i64 0] (.n (.n (.n .e 33 [(.int .u64 0)] .e) 35 [.int .u64 0, .int .u64 0, .int .u64 0] .e) 37 [.int .u8 0, .int .i64 0, .int .i64 0, .int .i64 0, .int .i64 0, .int .i64 0, .string ⟨#[]⟩, .int .u64 0, .int .u64 0, .int .u64 0, .int .u8 0, .int .u64 0, .int .i64 0] (.n (.n .e 39 [(.int .i64 0)] .e) 55 [.int .i64 0, .int .i64 0] .e))) 57 [.int .i64 0, .int .i64 0, .string ⟨#[]⟩] (.n (.n (.n (.n .e 59 [.int .i64 0, .int .i64 0, .int .i64 0, .int .i64 0, .int .u64 0, .int .u64 0, .int .u64 0] .e) 61 [.int .i64 0, .int .i64 0, .int .i64 0, .int .i64 0, .int .u8 0, .int .u64 0, .int .i64 0, .bool false] .e) 63 [.int .i64 0, .int .i64 0, .int .u8 0, .int .i64 0, .int .i64 0, .int .i64 0, .int .i64 0, .bool false, .int .u64 0] (.n (.n .e 65 [.int .i64 0, .int .i64 0, .int .i64 0] .e) 67 [.int .i64 0, .int .i64 0, .int .i64 0, .int .i64 0, .int .u8 0, .int .i64 0, .int .i64 0, .int .i64 0, .int .i64 0, .int .i64 0, .int .u64 0] .e)) 121 [.int .i64 0, .int .i64 0] (.n (.n (.n .e 123 [.int .i64 0, .int .i64 0, .int .i64 0, .int .i64 0, .int .i64 0, .int .i64 0] .e) 137 [.int .u8 0, .nilFunc] .e) 141 [.int .u8 0, .int .i64 0, .string ⟨#[]⟩] (.n (.n .e 142 [(.slice none 0 0)] .e) 144 [.bool false, .int .u8 0, .int .i64 0, .string ⟨#[]⟩, .slice none 0 0] .e)))) 163 [(.slice none 0 0)] (.n (.n (.n (.n (.n .e 175 [(.slice none 0 0)] .e) 178 [.int .i64 0, .int .i64 0, .int .i64 0, .int .i64 0, .int .i64 0, .int .u8 0] (.n .e 179 [(.slice none 0 0)] .e)) 187 [.slice none 0 0] (.n (.n .e 189 [.int .i64 0, .int .i64 0, .slice none 0 0, .slice none 0 0] .e) 193 [.int .i64 0, .int .i64 0, .int .i64 0, .int .u8 0, .int .i64 0, .int .i64 0, .int .i64 0, .int .i64 0, .int .i64 0] .e)) 214 [.map none] (.n (.n (.n .e 220 [.slice none 0 0, .slice none 0 0] .e) 226 [.nilFunc] .e) 237 [.int .i64 0, .int .i64 0] (.n (.n .e 240 [.slice none 0 0, .int .i64 0, .slice none 0 0] .e) 242 [.int .u8 0, .int .i64 0, .string ⟨#[]⟩, .int .i64 0, .int .i64 0, .int .i64 0, .int .i64 0, .int .i64 0] .e))) 252 [.string ⟨#[]⟩, .slice none 0 0, .int .i64 0, .slice none 0 0, .int .i64 0, .int .i64 0] (.n (.n (.n (.n .e 273 [.int .u8 0, .int .i64 0, .string ⟨#[]⟩] .e) 283 [.string ⟨#[]⟩] .e) 285 [.nilFunc, .nilFunc, .nilFunc, .nilFunc, .nilFunc] (.n (.n .e 292 [.int .u64 0, .int .u64 0] .e) 299 [.int .u8 0, .int .u8 0, .int .i64 0, .string ⟨#[]⟩, .int .i64 0, .int .i64 0, .int .i64 0, .int .i64 0, .int .i64 0, .int .u8 0, .int .i64 0] .e)) 304 [.int .i64 0, .int .i64 0] (.n (.n (.n .e 346 [(.int .u64 0)] .e) 360 [.int .i64 0, .int .i64 0, .int .i64 0, .int .i64 0, .bool false] .e) 366 [.int .i64 0, .int .i64 0, .bool false] (.n (.n .e 394 [.int .u8 0, .int .u8 0, .int .u8 0, .int .u8 0, .int .u8 0, .int .u8 0, .int .u8 0, .int .u8 0, .int .u8 0, .int .u8 0, .int .u8 0, .int .u8 0, .int .u8 0, .int .u8 0, .int .u8 0, .int .u8 0, .int .u8 0, .int .u8 0, .int .u8 0, .int .u8 0] .e) 395 [.string ⟨#[]⟩, .string ⟨#[]⟩, .string ⟨#[]⟩, .string ⟨#[]⟩, .string ⟨#[]⟩, .string ⟨#[]⟩, .string ⟨#[]⟩, .string ⟨#[]⟩, .string ⟨#[]⟩, .string ⟨#[]⟩, .string ⟨#[]⟩, .string ⟨#[]⟩, .string ⟨#[]⟩, .string ⟨#[]⟩, .string ⟨#[]⟩, .string ⟨#[]⟩, .string ⟨#[]⟩, .string ⟨#[]⟩, .string ⟨#[]⟩, .string ⟨#[]⟩, .string ⟨#[]⟩, .string ⟨#[]⟩, .string ⟨#[]⟩, .string ⟨#[]⟩, .string ⟨#[]⟩, .string ⟨#[]⟩, .string ⟨#[]⟩, .string ⟨#[]⟩, .string ⟨#[]⟩, .string ⟨#[]⟩, .string ⟨#[]⟩, .string ⟨#[]⟩, .string ⟨#[]⟩, .string ⟨#[]⟩, .string ⟨#[]⟩, .string ⟨#[]⟩, .string ⟨#[]⟩, .string ⟨#[]⟩, .string ⟨#[]⟩, .string ⟨#[]⟩, .string ⟨#[]⟩, .string ⟨#[]⟩, .string ⟨#[]⟩, .string ⟨#[]⟩, .string ⟨#[]⟩, .string ⟨#[]⟩, .string ⟨#[]⟩, .string ⟨#[]⟩, .string ⟨#[]⟩, .string ⟨#[]⟩] .e)))))
def fsF : FT (List (Nat × Nat)) := (.n (.n (.n (.n (.n (.n .e 28 [(0, 1), (1, 1), (2, 1), (3, 1), (4, 1), (5, 1), (6, 1)] .e) 32 [(0, 1), (1, 1), (2, 1), (3, 1)] .e) 35 [(0, 1), (1, 1), (2, 1)] (.n .e 37 [(0, 1), (1, 1), (2, 4), (6, 1), (7, 3), (10, 1), (11, 1), (12, 1)] .e)) 55 [(0, 1), (1, 1)] (.n (.n .e 57 [(0, 2), (2, 1)] .e) 59 [(0, 4), (4, 3)] (.n .e 61 [(0, 4), (4, 1), (5, 1), (6, 1), (7, 1)] .e))) 63 [(0, 1), (1, 1), (2, 1), (3, 4), (7, 1), (8, 1)] (.n (.n (.n .e 65 [(0, 2), (2, 1)] .e) 67 [(0, 1), (1, 3), (4, 1), (5, 4), (9, 1), (10, 1)] (.n .e 123 [(0, 4), (4, 2)] .e)) 137 [(0, 1), (1, 1)] (.n (.n .e 141 [(0, 1), (1, 1), (2, 1)] .e) 144 [(0, 1), (1, 3), (4, 1)] (.n .e 178 [(0, 4), (4, 1), (5, 1)] .e)))) 187 [(0, 1)] (.n (.n (.n (.n .e 189 [(0, 2), (2, 1), (3, 1)] .e) 193 [(0, 3), (3, 1), (4, 4), (8, 1)] (.n .e 214 [(0, 1)] .e)) 220 [(0, 1), (1, 1)] (.n (.n .e 237 [(0, 1), (1, 1)] .e) 240 [(0, 1), (1, 1), (2, 1)] (.n .e 242 [(0, 1), (1, 1), (2, 1), (3, 4), (7, 1)] .e))) 252 [(0, 1), (1, 1), (2, 1), (3, 1), (4, 1), (5, 1)] (.n (.n (.n .e 273 [(0, 1), (1, 1), (2, 1)] .e) 283 [(0, 1)] (.n .e 292 [(0, 1), (1, 1)] .e)) 299 [(0, 1), (1, 3), (4, 4), (8, 1), (9, 1), (10, 1)] (.n (.n .e 304 [(0, 1), (1, 1)] .e) 360 [(0, 2), (2, 2), (4, 1)] (.n .e 366 [(0, 1), (1, 1), (2, 1)] .e)))))
def elF : FT Nat := (.n (.n (.n (.n (.n .e 22 57 .e) 23 59 .e) 24 61 (.n (.n .e 25 63 .e) 26 67 .e)) 29 37 (.n (.n (.n .e 51 55 .e) 84 9 .e) 118 33 (.n (.n .e 119 123 .e) 142 299 .e))) 148 137 (.n (.n (.n (.n .e 163 121 .e) 175 178 .e) 179 3 (.n (.n .e 185 189 .e) 231 226 .e)) 233 242 (.n (.n (.n .e 256 32 .e) 267 5 .e) 300 304 (.n (.n .e 337 2 .e) 362 366 .e))))
def ikF : FT IntKind := (.n (.n (.n (.n (.n .e 2 .i64 .e) 3 .i64 .e) 5 .u8 (.n .e 6 .u8 .e)) 12 .u64 (.n (.n .e 21 .i32 .e) 33 .u64 (.n .e 39 .i64 .e))) 74 .u64 (.n (.n (.n .e 306 .i64 .e) 315 .u32 (.n .e 346 .u64 .e)) 405 .u8 (.n (.n .e 406 .u8 .e) 409 .i32 (.n .e 410 .i32 .e))))
theorem szF_all : szF.all (fun k v => lkN szL k == some v) = true := by decide +kernel
theorem szF_none : (List.range 416).all (fun t => (szF.at t).isSome || (lkN szL t).isNone) = true := by decide +kernel
theorem fdF_all : fdF.all (fun k v => (List.range v.length).all fun f => lkF fdL k f == v[f]?) = true := by decide +kernel
theorem slF_all : slF.all (fun k v => lkN slL k == some v) = true := by decide +kernel
theorem zF_all : zF.all (fun k v => match lkV zL k with | some w => vsEq w v | none => false) = true := by decide +kernel
theorem fsF_all : fsF.all (fun k v => lkS fsL k == some v) = true := by decide +kernel
theorem elF_all : elF.all (fun k v => lkN elL k == some v) = true := by decide +kernel
theorem ikF_all : ikF.all (fun k v => match lkI ikL k with | some w => decide (w = v) | none => false) = true := by decide +kernel
theorem fk_sz {t k : Nat} (h : szF.at t = some k) : lkN szL t = some k := eq_of_beq (FT.at_all h szF_all)
theorem fk_sz0 {t : Nat} (h : szF.at t = none) (ht : Nat.blt t 416 = true) : lkN szL t = none := by
  have := List.all_eq_true.1 szF_none t (List.mem_range.2 (by simpa [Nat.blt_eq] using ht))
  rw [h] at this; simpa using this
def fdAt (t f : Nat) : Option Nat := match fdF.at t with | some l => l[f]? | none => none
theorem fk_fd {t f o : Nat} (h : fdAt t f = some o) : lkF fdL t f = some o := by
  unfold fdAt at h
  split at h
  · rename_i l hl
    have := List.all_eq_true.1 (FT.at_all hl fdF_all) f (List.mem_range.2 (List.getElem?_eq_some_iff.1 h).1)
    rw [eq_of_beq this, h]
  · cases h
theorem fk_sl {t k : Nat} (h : slF.at t = some k) : lkN slL t = some k := eq_of_beq (FT.at_all h slF_all)
theorem fk_z {t : Nat} {v : List Value} (h : zF.at t = some v) : lkV zL t = some v := by
  have := FT.at_all h zF_all
  split at this
  · rename_i w hw; rw [hw, vsEq_eq this]
  · cases this
theorem fk_fs {t : Nat} {v : List (Nat × Nat)} (h : fsF.at t = some v) : lkS fsL t = some v := eq_of_beq (FT.at_all h fsF_all)
theorem fk_el {t k : Nat} (h : elF.at t = some k) : lkN elL t = some k := eq_of_beq (FT.at_all h elF_all)
theorem fk_ik {t : Nat} {k : IntKind} (h : ikF.at t = some k) : lkI ikL t = some k := by
  have := FT.at_all h ikF_all
  split at this
  · rename_i w hw; rw [hw, of_decide_eq_true this]
  · cases this
/-! ### Places in slices that are read, told as one word -/
def offA (A : Option Addr) (m k j : Nat) : Nat := oOf A + m * k + j
section
variable {α : Type} {E : α → List Value} {k : Nat} {xs : List α} {A : Option Addr} {w0 : World} {n : Nat} {s : Sl} {h : List Bx} {g : Option (Option Tmp × Bool)} {dd : Option Tmp} {ty t : TypeId} {x y : Operand}
theorem y_indexO {c m : Nat} {i : Int} {kk : IntKind} {e : α} (hx : ev s x = some (.slice A xs.length c)) (hi : ev s y = some (.int kk i)) (ht : lkN slL t = some k) (hS : SlIn E k w0 h A xs) (hm : i = (m : Int)) (he : xs[m]? = some e) (hw : Wan s g true) :
    Y Tryz.prog w0 n s h ⟨dd, .indexAddr t x y, ty, g⟩ (.pointer (some ⟨gOf A, offA A m k 0, none⟩)) := y_indexS hx hi ht hS hm he hw
theorem y_fieldO {f o m j : Nat} (hx : ev s x = some (.pointer (some ⟨gOf A, offA A m k j, none⟩))) (hf : lkF fdL t f = some o) (hw : Wan s g true) :
    Y Tryz.prog w0 n s h ⟨dd, .fieldAddr t x f, ty, g⟩ (.pointer (some ⟨gOf A, offA A m k (j + o), none⟩)) := by
  have := y_field (w0 := w0) (n := n) (h := h) (dd := dd) (ty := ty) hx hf hw
  rwa [show offA A m k j + o = offA A m k (j + o) from Nat.add_assoc _ _ _] at this
theorem y_loadO {m j : Nat} {e : α} {u : Value} (hx : ev s x = some (.pointer (some ⟨gOf A, offA A m k j, none⟩))) (hS : SlIn E k w0 h A xs) (he : xs[m]? = some e) (ht : Nat.blt t 416 = true) (hs : lkN szL t = none)
    (hv : nth (E e) j = some u) (hw : Wan s g true) : Y Tryz.prog w0 n s h ⟨dd, .load t x, ty, g⟩ u := y_loadS hx hS he ht hs hv hw
theorem y_loadOA {m j q : Nat} {e : α} {us : List Value} (hx : ev s x = some (.pointer (some ⟨gOf A, offA A m k j, none⟩))) (hS : SlIn E k w0 h A xs) (he : xs[m]? = some e) (ht : Nat.blt t 416 = true) (hs : lkN szL t = some (q + 1))
    (hv : nths (E e) j (q + 1) = some us) (hw : Wan s g true) : Y Tryz.prog w0 n s h ⟨dd, .load t x, ty, g⟩ (.agg us.toArray) := y_loadSA hx hS he ht hs hv hw
end
attribute [irreducible] offA
end Go.Proofs.YtpmjbobgglgnaaaGreatDoor
