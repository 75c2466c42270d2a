/- lex.length: how many bytes from an index on a function takes; a range over a function. -/
import Derived.Test.YtpmjbobgglgnaaaGreatDoorW2
import Derived.RangeFuncNested
import Derived.RangeFuncBound
import Derived.RangeFuncCalls
import Derived.RangeFuncLeaves
import Derived.RangeFuncFrom
import Derived.Shelf.Abstract
import Derived.Shelf.RegionOpen
import Derived.WalkKit
import Derived.OwnWalkIn
import Derived.TacticsInMore
import Derived.LoopNIn
import Derived.LoopIn
namespace Go.Proofs.YtpmjbobgglgnaaaGreatDoor
open Go.RowKit Go.Shelf
attribute [local go_sem] Oper.semAt_some
set_option linter.unusedVariables false
set_option linter.unusedSimpArgs false
def pieceW (w : World) (xs : List UInt8) (m : Int) (f : Nat) : World := ((w.alloc (.cells #[.string (ofL xs)] 9)).alloc (.cells #[.int .i64 m] 3)).alloc (.cells #[.func (.func f) #[] #[]] 151)
def pieceV (w : World) : Value := .func (.func 338) #[] #[.pointer (some ⟨w.heap.size + 1, 0, none⟩), .pointer (some ⟨w.heap.size, 0, none⟩), .pointer (some ⟨w.heap.size + 1 + 1, 0, none⟩)]
set_option maxHeartbeats 2000000 in
set_option maxRecDepth 100000 in
theorem piece316 (n : Nat) (w : World) (xs : List UInt8) (m : Int) (f : Nat) : CallsIn Fence.wide n Tryz.prog 316 #[.string (ofL xs), .int .i64 m, .func (.func f) #[] #[]] w fun e w' => e = .returned (pieceV w) ∧ w' = pieceW w xs m f := by
  refine callsIn_of_wp Tryz.func316 rfl trivial ?_ rfl
  simp only [Tryz.ntmps316, List.size_toArray, List.length_cons, List.length_nil, Nat.reduceAdd, Nat.reduceSub, Array.replicate_succ, Array.replicate_zero, List.push_toArray, List.append_toArray, List.nil_append, List.cons_append]
  gi_wp2
  go_ret
  exact ⟨rfl, rfl⟩
/-- The iterator's boxes are kept. -/
def KpB (b : Nat) (A B : World) : Prop := ∀ k, b ≤ k → k < b + 3 → B.heap[k]? = A.heap[k]?
theorem pieceW_size (w : World) (xs : List UInt8) (m : Int) (f : Nat) : (pieceW w xs m f).heap.size = w.heap.size + 3 := by
  simp only [pieceW, World.size_alloc]
set_option maxHeartbeats 4000000 in
set_option maxRecDepth 100000 in
theorem length_in (n : Nat) (hn : 3 ≤ n) (xs : List UInt8) (m f : Nat) (w : World) (ys : List UInt8) (hys : ys.length ≤ 1048576)
    (hseq : ∀ w1 : World, SeqStopsK Fence.wide (n - 1) Tryz.prog 338 #[.pointer (some ⟨w1.heap.size + 1, 0, none⟩), .pointer (some ⟨w1.heap.size, 0, none⟩), .pointer (some ⟨w1.heap.size + 1 + 1, 0, none⟩)] (fun x : UInt8 => #[.int .u8 x.toNat]) (KpB w1.heap.size) (fun zs => zs = ys) (fun pre => True) ys.length (pieceW w1 xs m f)) :
    CallsIn Fence.wide n Tryz.prog 275 #[.string (ofL xs), .int .i64 m, .func (.func f) #[] #[]] w fun e W' => e = .returned (.int .i64 ys.length) ∧ Below w.heap.size w W' := by
  have h1 : 1 ≤ n := by omega
  refine callsIn_of_wp_marks Tryz.func275 rfl trivial ?_ rfl
  simp only [Tryz.ntmps275, List.size_toArray, List.length_cons, List.length_nil, Nat.reduceAdd, Nat.reduceSub, Array.replicate_succ, Array.replicate_zero, List.push_toArray, List.append_toArray, List.nil_append, List.cons_append]
  gi_wp2_with (refine ⟨trivial, ?_⟩; gi_at_call 316; refine (piece316 (n - 1) _ xs m f).mono ?_; rintro e w' ⟨rfl, rfl⟩)
  obtain ⟨w1, hw1⟩ : ∃ w1, w1 = w.alloc (.cells #[.int .i64 0] 3) := ⟨_, rfl⟩
  rw [← hw1]
  have hbx : w1.heap[w.heap.size]? = some (.cells #[.int .i64 0] 3 (0, 0)) := by rw [hw1]; exact heap_alloc_new _ _
  have hbx2 : (pieceW w1 xs m f).heap[w.heap.size]? = some (.cells #[.int .i64 0] 3 (0, 0)) := blk_alloc (blk_alloc (blk_alloc hbx _) _) _
  have hsz1 : w1.heap.size = w.heap.size + 1 := by rw [hw1, World.size_alloc]
  have hB1 : Below w.heap.size w w1 := by rw [hw1]; exact (Below.refl _ w).alloc (Nat.le_refl _) _
  have hB0 : Below w.heap.size w (pieceW w1 xs m f) := by
    unfold pieceW
    exact ((hB1.alloc (by omega) _).alloc (by simp; omega) _).alloc (by simp; omega) _
  have hpz := pieceW_size w1 xs m f
  refine wpIn_rangeFunc_ownF rfl h1 (gf := 338) (lb := #[.pointer (some ⟨w1.heap.size + 1, 0, none⟩), .pointer (some ⟨w1.heap.size, 0, none⟩), .pointer (some ⟨w1.heap.size + 1 + 1, 0, none⟩)]) rfl trivial (enters_of Tryz.func338 (by kernel_rfl) rfl)
    (hseq w1) (fun hab hbc k h1 h2 => (hbc k h1 h2).trans (hab k h1 h2)) (fun W l o o' hl ho hc hw k h1 h2 => ?_) (Below.refl _ _) (fun _ => rfl)
    (fun pre W => (W.cell? ⟨w.heap.size, 0, none⟩ = some (.int .i64 (pre.length : Int)) ∧ W.frozen? ⟨w.heap.size, 0, none⟩ = false) ∧ Below w.heap.size w W)
    (fun _ _ _ => False)
    (OwnFrom.and (Own.from (fun s A B row hs hg hr => ⟨cell_kept hs.1 hg hr, (frozen_kept hs.1 hg hr).trans hs.2⟩) _) (ownFrom_below (Nat.le_refl _) (by omega)))
    (fun _ _ _ _ _ hs _ _ => hs)
    ⟨⟨cell_rule hbx2 0, froz_rule hbx2 0⟩, hB0⟩
    (fun x => { tmps := #[.string (ofL xs), .int .i64 m, .func (.func f) #[] #[], undef, undef, undef, .int .i64 0, .pointer (some ⟨w.heap.size, 0, none⟩), .string (ofL xs), .int .i64 m, .func (.func f) #[] #[], pieceV w1, .int .u8 x.toNat, undef, undef, undef], defers := [] }) ?assign ?body ?done ?stop
  case assign =>
    intro l x W K hK
    gi_wp2
    simpa using hK
  case body =>
    rintro l pre x W ⟨⟨hc, hf⟩, hB⟩ hlen
    gi_wp2
    refine ⟨KeepsOthers.setCell _ _ _, fun k h1 h2 => ?_, ⟨?_, by rw [World.frozen?_setCell]; exact hf⟩, hB.setCell (p := ⟨w.heap.size, 0, none⟩) (Nat.le_refl _) _⟩
    · show (W.heap.modify w.heap.size _)[k]? = _
      rw [Array.getElem?_modify, if_neg (by omega)]
    · rw [World.cell?_setCell_same' _ _ _ (by rw [hc]; rfl)]
      simp
  case done =>
    rintro D zs W hD rfl ⟨⟨hc, _⟩, hB⟩ hK
    gi_wp2
    refine ⟨by simp, .inl ⟨_, _, rfl, run_takeDeferred hK, ?_⟩⟩
    exact ⟨_, results_tmp rfl _ _ _, rfl, hB.trans (belowK_b (w := w) (Nat.le_refl _) W D _ _ (by omega) hK rfl rfl)⟩
  case stop =>
    rintro D c pre W _ _ h _
    exact h.elim
  · show (W.heap.setIfInBounds l o')[k]? = _
    rw [Array.getElem?_setIfInBounds_ne (by omega)]
end Go.Proofs.YtpmjbobgglgnaaaGreatDoor
