/- The common words of this seat's walks: what a call hands back, and small facts on worlds. -/
import Derived.Test.YtpmjbobgglgnaaaGreatDoorProg
import Derived.WalkKit
import Derived.WalkSpells
import Derived.WalkLawsBesides
import Derived.Below
import Derived.Lib.Hide
import Derived.RegionTactic
import Derived.BigRegion
import Derived.BigQuiet
import Derived.Deep.QuietTactic
import Derived.Deep.LoopGhost
import Derived.Deep.DeepCutAuto
import Derived.Deep.RegionHeld3
import Derived.Laws.Rows
namespace Go.Proofs.YtpmjbobgglgnaaaGreatDoor
open Go.RowKit

/-- What a call hands back; it makes memory and turns none. -/
def Ret (v : Value) (w : World) (e : Ending) (w' : World) : Prop := e = .returned v ∧ Below w.heap.size w w'
theorem Ret.mk {v v' : Value} {w w' : World} (h : v = v') (hb : Below w.heap.size w w') : Ret v' w (.returned v) w' := ⟨by rw [h], hb⟩
theorem bcell {W w1 : World} (hb : Below W.heap.size W w1) : (∀ b o, b < W.heap.size → w1.cell? ⟨b, o, none⟩ = W.cell? ⟨b, o, none⟩) ∧ (∀ b o, b < W.heap.size → w1.frozen? ⟨b, o, none⟩ = W.frozen? ⟨b, o, none⟩) :=
  ⟨fun b o h => hb.cell (p := ⟨b, o, none⟩) h, fun b o h => hb.frozen (p := ⟨b, o, none⟩) h⟩
theorem b_step {w W w1 : World} (h : Below w.heap.size w W) (hb : Below W.heap.size W w1) : Below w.heap.size w w1 :=
  h.trans (hb.mono h.size)
theorem b_alloc {w W : World} (h : Below w.heap.size w W) (o : Obj) : Below w.heap.size w (W.alloc o) := h.alloc h.size o
theorem b_drew {w W : World} (h : Below w.heap.size w W) : Below w.heap.size w W.drew := h.drew
theorem b_set {w W : World} {p : Addr} (h : Below w.heap.size w W) (hp : w.heap.size ≤ p.block) (v : Value) : Below w.heap.size w (W.setCell p v) := h.setCell hp v

/-! ### Blocks -/
theorem heap_alloc_at {w : World} {g : Nat} (h : g = w.heap.size) (o : Obj) : (w.alloc o).heap[g]? = some o := h ▸ heap_alloc_new w o
theorem blk_lt {w : World} {g : Nat} {o : Obj} (h : w.heap[g]? = some o) : g < w.heap.size := (Array.getElem?_eq_some_iff.1 h).1
theorem blk_below {w w1 : World} {g : Nat} {o : Obj} (h : w.heap[g]? = some o) (hb : Below w.heap.size w w1) : w1.heap[g]? = some o := (hb.block g (blk_lt h)).trans h
theorem blk_alloc {w : World} {g : Nat} {o : Obj} (h : w.heap[g]? = some o) (x : Obj) : (w.alloc x).heap[g]? = some o := blk_below h ((Below.refl _ _).alloc (Nat.le_refl _) _)
theorem blk_drew {w : World} {g : Nat} {o : Obj} (h : w.heap[g]? = some o) : w.drew.heap[g]? = some o := h
theorem blk_far {w : World} {g : Nat} {o : Obj} {p : Addr} (h : w.heap[g]? = some o) (hne : g ≠ p.block) (v : Value) : (w.setCell p v).heap[g]? = some o := by
  simp only [World.setCell, Array.getElem?_modify]
  rw [if_neg (fun e => hne e.symm)]; exact h
theorem blk_set {w : World} {g : Nat} {t : TypeId} {cs : Array Value} {fr : Nat × Nat} (h : w.heap[g]? = some (.cells cs t fr)) (i : Nat) (u : Value) : (w.setCell ⟨g, i, none⟩ u).heap[g]? = some (.cells (cs.setIfInBounds i u) t fr) := by
  simp [World.setCell, Array.getElem?_modify, h]
theorem blk_put {w : World} {g : Nat} {t : TypeId} {cs cs' : Array Value} {fr : Nat × Nat} (h : w.heap[g]? = some (.cells cs t fr)) (i : Nat) (u : Value) (e : cs.setIfInBounds i u = cs') : (w.setCell ⟨g, i, none⟩ u).heap[g]? = some (.cells cs' t fr) := e ▸ blk_set h i u
theorem cell_rule {w : World} {g : Nat} {cs : Array Value} {t : TypeId} {fr : Nat × Nat} (h : w.heap[g]? = some (.cells cs t fr)) : ∀ o, w.cell? ⟨g, o, none⟩ = cs[o]? := by
  intro o; simp [World.cell?, h]
theorem froz_rule {w : World} {g : Nat} {cs : Array Value} {t : TypeId} (h : w.heap[g]? = some (.cells cs t (0, 0))) : ∀ o, w.frozen? ⟨g, o, none⟩ = false := by
  intro o; simp [World.frozen?, h]

/-! ### Slices of flat elements that are read: E gives an element's cells, sz is how many. -/
def fld (a : Addr) (j : Nat) : Addr := if j = 0 then a else ⟨a.block, a.off + j, none⟩
theorem fld_zero (a : Addr) : fld a 0 = a := rfl
theorem fld_succ (a : Addr) (j : Nat) : fld a (j + 1) = ⟨a.block, a.off + (j + 1), none⟩ := rfl
def RdS {α : Type} (E : α → List Value) (sz : Nat) (w : World) (A : Option Addr) (xs : List α) : Prop :=
  xs.length ≤ 9223372036854775807 ∧ ∀ i (h : i < xs.length), ∃ ad, A = some ad ∧ ∀ j u, (E xs[i])[j]? = some u → w.cell? (fld (ad.add (i * sz)) j) = some u
theorem RdS.at {α : Type} {E : α → List Value} {sz : Nat} {w : World} {A : Option Addr} {xs : List α} (h : RdS E sz w A xs) (i : Nat) (hi : i < xs.length) :
    ∃ ad, A = some ad ∧ ∀ j u, (E xs[i])[j]? = some u → w.cell? (fld (ad.add (i * sz)) j) = some u := h.2 i hi
theorem RdS.below {α : Type} {E : α → List Value} {sz : Nat} {w w1 : World} {A : Option Addr} {xs : List α} (h : RdS E sz w A xs) (hb : Below w.heap.size w w1) : RdS E sz w1 A xs :=
  ⟨h.1, fun i hi => by
    obtain ⟨ad, e, hc⟩ := h.2 i hi
    exact ⟨ad, e, fun j u hu => (hb.cell (World.block_lt_of_cell? w _ (hc j u hu))).trans (hc j u hu)⟩⟩

/-! ### The document's plain data -/
structure Ref where
  col : Int
  row : Int
structure Rect where
  c1 : Int
  r1 : Int
  c2 : Int
  r2 : Int
structure Rights where
  read : Int
  write : Int
  own : Int
structure Rule where
  rect : Rect
  rights : Rights
structure Entry where
  at_ : Ref
  input : ByteArray
structure Grant where
  rect : Rect
  fns : Int
  to_ : Int
  by_ : Int
  revoked : Bool
def Rect.cs (x : Rect) : List Value := [.int .i64 x.c1, .int .i64 x.r1, .int .i64 x.c2, .int .i64 x.r2]
def Rule.cs (x : Rule) : List Value := [.int .i64 x.rect.c1, .int .i64 x.rect.r1, .int .i64 x.rect.c2, .int .i64 x.rect.r2, .int .u64 x.rights.read, .int .u64 x.rights.write, .int .u64 x.rights.own]
def Entry.cs (x : Entry) : List Value := [.int .i64 x.at_.col, .int .i64 x.at_.row, .string x.input]
def Grant.cs (x : Grant) : List Value := [.int .i64 x.rect.c1, .int .i64 x.rect.r1, .int .i64 x.rect.c2, .int .i64 x.rect.r2, .int .u8 x.fns, .int .u64 x.to_, .int .i64 x.by_, .bool x.revoked]
def okOr (b : Bool) (e : Int) : Int := if b then 0 else e
end Go.Proofs.YtpmjbobgglgnaaaGreatDoor
