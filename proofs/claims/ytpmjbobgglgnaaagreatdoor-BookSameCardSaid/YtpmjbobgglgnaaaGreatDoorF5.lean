/- Rules and entries by their fields; the reference's checks of ranges and of sets of users. -/
import Derived.Test.YtpmjbobgglgnaaaGreatDoorF4
namespace Go.Proofs.YtpmjbobgglgnaaaGreatDoor
open Go.RowKit
set_option linter.unusedVariables false
set_option linter.unusedSimpArgs false
def iOf : Value → Int
  | .int _ x => x
  | _ => 0
def tOf : Value → ByteArray
  | .string b => b
  | _ => ByteArray.empty
theorem fits_i {k : IntKind} {v : Value} (h : (Kd.i k).fits v = true) : v = .int k (iOf v) ∧ (Lit.int k (iOf v)).wf = true := by
  cases v <;> simp only [Kd.fits, Bool.and_eq_true, decide_eq_true_eq, Bool.false_eq_true] at h
  obtain ⟨rfl, h⟩ := h
  exact ⟨rfl, h⟩
theorem fits_s {v : Value} (h : Kd.s.fits v = true) : v = .string (tOf v) ∧ (tOf v).size ≤ maxLen := by
  cases v <;> simp only [Kd.fits, decide_eq_true_eq, Bool.false_eq_true] at h
  exact ⟨rfl, h⟩
structure RuleS where
  c1 : Int
  r1 : Int
  c2 : Int
  r2 : Int
  rd : Int
  wr : Int
  ow : Int
def RuleS.cs (r : RuleS) : List Value := [.int .i64 r.c1, .int .i64 r.r1, .int .i64 r.c2, .int .i64 r.r2, .int .u64 r.rd, .int .u64 r.wr, .int .u64 r.ow]
structure EntryS where
  col : Int
  row : Int
  inp : ByteArray
def EntryS.cs (r : EntryS) : List Value := [.int .i64 r.col, .int .i64 r.row, .string r.inp]
theorem shpc {k : Kd} {ks : List Kd} : ∀ {l : List Value}, shp (k :: ks) l = true → ∃ v l', l = v :: l' ∧ k.fits v = true ∧ shp ks l' = true
  | [], h => by cases h
  | v :: l, h => by
    simp only [shp, Bool.and_eq_true] at h
    exact ⟨v, l, rfl, h.1, h.2⟩
theorem shpn : ∀ {l : List Value}, shp [] l = true → l = []
  | [], _ => rfl
  | _ :: _, h => by cases h
theorem rule_of (e : El K59) : ∃ r : RuleS, r.cs = El.cs e := by
  obtain ⟨l, hl⟩ := e
  obtain ⟨v1, l1, e1, h1, g1⟩ := shpc hl
  obtain ⟨v2, l2, e2, h2, g2⟩ := shpc g1
  obtain ⟨v3, l3, e3, h3, g3⟩ := shpc g2
  obtain ⟨v4, l4, e4, h4, g4⟩ := shpc g3
  obtain ⟨v5, l5, e5, h5, g5⟩ := shpc g4
  obtain ⟨v6, l6, e6, h6, g6⟩ := shpc g5
  obtain ⟨v7, l7, e7, h7, g7⟩ := shpc g6
  have e8 := shpn g7
  refine ⟨⟨iOf v1, iOf v2, iOf v3, iOf v4, iOf v5, iOf v6, iOf v7⟩, ?_⟩
  show _ = l
  rw [e1, e2, e3, e4, e5, e6, e7, e8]
  simp only [RuleS.cs, ← (fits_i h1).1, ← (fits_i h2).1, ← (fits_i h3).1, ← (fits_i h4).1, ← (fits_i h5).1, ← (fits_i h6).1, ← (fits_i h7).1]
theorem entry_of (e : El K57) : ∃ r : EntryS, r.cs = El.cs e ∧ r.inp.size ≤ maxLen := by
  obtain ⟨l, hl⟩ := e
  obtain ⟨v1, l1, e1, h1, g1⟩ := shpc hl
  obtain ⟨v2, l2, e2, h2, g2⟩ := shpc g1
  obtain ⟨v3, l3, e3, h3, g3⟩ := shpc g2
  have e8 := shpn g3
  refine ⟨⟨iOf v1, iOf v2, tOf v3⟩, ?_, (fits_s h3).2⟩
  show _ = l
  rw [e1, e2, e3, e8]
  simp only [EntryS.cs, ← (fits_i h1).1, ← (fits_i h2).1, ← (fits_s h3).1]
theorem list_of {α β : Type} {E : α → List Value} {F : β → List Value} {p : β → Prop} (H : ∀ e : α, ∃ r : β, F r = E e ∧ p r) : ∀ xs : List α, ∃ ys : List β, ys.map F = xs.map E ∧ ∀ y ∈ ys, p y
  | [] => ⟨[], rfl, by simp⟩
  | x :: xs => by
    obtain ⟨y, hy, hp⟩ := H x
    obtain ⟨ys, h1, h2⟩ := list_of H xs
    exact ⟨y :: ys, by simp [hy, h1], by simp [hp]; exact h2⟩
theorem SlIn.via {α β : Type} {E : α → List Value} {F : β → List Value} {k : Nat} {w0 : World} {h : List Bx} {A : Option Addr} {xs : List α} {ys : List β} (H : SlIn E k w0 h A xs) (e : ys.map F = xs.map E) : SlIn F k w0 h A ys := by
  have hl : ys.length = xs.length := by simpa using congrArg List.length e
  refine ⟨by rw [hl]; exact H.small, fun hy => H.ad (by rintro rfl; simp at hl; exact hy hl), fun W hi hy => H.lt W hi (by rintro rfl; simp at hl; exact hy hl), fun W hi m f hf j u hu => ?_⟩
  have h1 : (ys.map F)[m]? = some (F f) := by simp [hf]
  rw [e, List.getElem?_map, Option.map_eq_some_iff] at h1
  obtain ⟨x, hx, hE⟩ := h1
  exact H.cell W hi m x hx j u (by rw [hE]; exact hu)
def bitI (op : BinOp) (k : IntKind) (a b : Int) : Option Value :=
  match op with
  | .and => some (.int k (k.wrap (BitVec.ofInt k.bits a &&& BitVec.ofInt k.bits b).toNat))
  | .or => some (.int k (k.wrap (BitVec.ofInt k.bits a ||| BitVec.ofInt k.bits b).toNat))
  | .xor => some (.int k (k.wrap (BitVec.ofInt k.bits a ^^^ BitVec.ofInt k.bits b).toNat))
  | .andNot => some (.int k (k.wrap (BitVec.ofInt k.bits a &&& ~~~BitVec.ofInt k.bits b).toNat))
  | _ => none
section
variable {w0 : World} {n : Nat} {s : Sl} {h : List Bx} {dd : Option Tmp} {x y : Operand} {ty t yt : TypeId} {g : Option (Option Tmp × Bool)}
theorem y_bit {op : BinOp} {k : IntKind} {a b : Int} {v : Value} (hx : ev s x = some (.int k a)) (hy : ev s y = some (.int k b)) (hv : bitI op k a b = some v) (hw : Wan s g true) :
    Y Tryz.prog w0 n s h ⟨dd, .binOp op t x y yt, ty, g⟩ v :=
  y_yield hw (fun tm W hk _ => by
    simp only [execOp, CO.oper, ev_ok (ds := []) hk hx, ev_ok (ds := []) hk hy]
    cases op <;> simp only [bitI, Option.some.injEq, reduceCtorEq] at hv <;> subst hv <;> simp only [eqGuard, binOp, Op.intArith, Op.intCmp, ne_eq, not_true_eq_false, if_false, Bool.not_true, Bool.not_false, Bool.or_true, Bool.false_eq_true, Bool.or_false, if_true, Bool.or_self, reduceIte] <;> rfl)
theorem y_shl {k l : IntKind} {a b : Int} (hx : ev s x = some (.int k a)) (hy : ev s y = some (.int l b)) (hb : 0 ≤ b) (hw : Wan s g true) :
    Y Tryz.prog w0 n s h ⟨dd, .binOp .shl t x y yt, ty, g⟩ (.int k (k.wrap (a * 2 ^ (min b.toNat k.bits)))) :=
  y_yield hw (fun tm W hk _ => by
    have hb' : ¬ b < 0 := by omega
    simp only [execOp, CO.oper, ev_ok (ds := []) hk hx, ev_ok (ds := []) hk hy]
    simp [eqGuard, binOp, Op.shift, hb', Sem.run_bind])
end
end Go.Proofs.YtpmjbobgglgnaaaGreatDoor
