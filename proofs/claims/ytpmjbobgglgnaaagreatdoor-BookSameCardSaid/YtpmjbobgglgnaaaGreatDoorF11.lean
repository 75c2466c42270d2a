/- For every input the law BookSame returns true, and its arguments read behind the call as they did: the row, and its tied card. The condition: the table of the errors' words is as the program's text lays it (the card ties that). -/
import Derived.Test.YtpmjbobgglgnaaaGreatDoorF10
import Derived.Test.YtpmjbobgglgnaaaGreatDoorCards
import Derived.Test.YtpmjbobgglgnaaaGreatDoorTie
import Derived.Test.YtpmjbobgglgnaaaGreatDoorG1
namespace Go.Proofs.YtpmjbobgglgnaaaGreatDoor
open Go.RowKit Go.ChangeShapes Go.WideShapes
set_option linter.unusedVariables false
set_option linter.unusedSimpArgs false
abbrev laidW : List (String × DataW Unit) := [("louvre/val.words", Rows.laid_louvre_val_words)]
section
variable {H : Type} {enc : TypeId × Value → H} {W : World} {spare : Nat → Bool} {held : Bool}
theorem wf64 {n : Int} (h : (Lit.int .i64 n).wf = true) : -9223372036854775808 ≤ n ∧ n ≤ 9223372036854775807 := by
  simp [Lit.wf, IntKind.min, IntKind.max, IntKind.signed, IntKind.bits] at h
  omega
theorem wf8 {n : Int} (h : (Lit.int .u8 n).wf = true) : 0 ≤ n ∧ n < 256 := by
  simp [Lit.wf, IntKind.min, IntKind.max, IntKind.signed, IntKind.bits] at h
  omega
theorem c1 : ([3, 22, 23, 24, 25, 26] : List Nat).all (fun t => Nat.beq (Tryz.prog.cellsOf t) 1) = true := by decide +kernel
theorem c1' {t : Nat} (h : t ∈ ([3, 22, 23, 24, 25, 26] : List Nat)) : Tryz.prog.cellsOf t = 1 := Nat.eq_of_beq_eq_true (List.all_eq_true.1 c1 t h)
theorem c28 : Tryz.prog.cellsOf 28 = 7 := by kernel_rfl
theorem c57 : Tryz.prog.cellsOf 57 = 3 := by kernel_rfl
theorem c59 : Tryz.prog.cellsOf 59 = 7 := by kernel_rfl
theorem c61 : Tryz.prog.cellsOf 61 = 8 := by kernel_rfl
theorem c63 : Tryz.prog.cellsOf 63 = 9 := by kernel_rfl
theorem c67 : Tryz.prog.cellsOf 67 = 11 := by kernel_rfl
set_option maxRecDepth 100000 in
/-- A book that came in. -/
theorem book_open {fuel : Nat} {cs : List Value} {x : DataW H × List MemPlace} (h : DataW.trod enc Tryz.prog W 0 spare held fuel 28 cs = some x) (hN : ∀ n ∈ x.1.weights Tryz.prog 28, n ≤ 140737488351232) :
    ∃ b a, cs = [.int .i64 b.U, .slice a.e b.e.length a.ce, .slice a.r b.r.length a.cr, .slice a.g b.g.length a.cg, .slice a.l b.l.length a.cl, .slice a.x b.x.length a.cx, .int .i64 b.S] ∧ BookIn W [] b a ∧ Same7 b ∧ StrB b := by
  obtain ⟨xs, n, rfl, rfl, hl, hxl, hi⟩ := DataW.trod_struct Tryz.underlying28 h
  rw [c28] at hl
  match cs, hl with
  | [v0, v1, v2, v3, v4, v5, v6], _ =>
  have hw : ∀ i t, ([3, 22, 23, 24, 25, 26, 3] : List Nat)[i]? = some t → ∀ y : DataW H × List MemPlace, xs[i]? = some y → ∀ n ∈ y.1.weights Tryz.prog t, n ≤ 140737488351232 := fun i t ht y hy n hn => hN n (by
    simp only [DataW.weights, Tryz.underlying28]
    exact DataW.weights_mem_each (j := i) (t := t) (d := y.1) (by simpa using ht) (by rw [List.getElem?_map, hy]; rfl) n hn)
  have hx : ∀ i, i < 7 → ∃ y : DataW H × List MemPlace, xs[i]? = some y := fun i hi => ⟨_, List.getElem?_eq_getElem (by rw [hxl]; exact hi)⟩
  obtain ⟨y0, hy0⟩ := hx 0 (by omega)
  obtain ⟨y1, hy1⟩ := hx 1 (by omega)
  obtain ⟨y2, hy2⟩ := hx 2 (by omega)
  obtain ⟨y3, hy3⟩ := hx 3 (by omega)
  obtain ⟨y4, hy4⟩ := hx 4 (by omega)
  obtain ⟨y5, hy5⟩ := hx 5 (by omega)
  obtain ⟨y6, hy6⟩ := hx 6 (by omega)
  have t0 := hi 0 _ rfl
  have t1 := hi 1 _ rfl
  have t2 := hi 2 _ rfl
  have t3 := hi 3 _ rfl
  have t4 := hi 4 _ rfl
  have t5 := hi 5 _ rfl
  have t6 := hi 6 _ rfl
  rw [hy0, c1' (by simp)] at t0
  rw [hy1, c1' (by simp)] at t1
  rw [hy2, c1' (by simp)] at t2
  rw [hy3, c1' (by simp)] at t3
  rw [hy4, c1' (by simp)] at t4
  rw [hy5, c1' (by simp)] at t5
  rw [hy6, c1' (by simp)] at t6
  obtain ⟨U, e0, _, hU⟩ := DataW.trod_int Tryz.underlying3 t0
  obtain ⟨S, e6, _, hS⟩ := DataW.trod_int Tryz.underlying3 t6
  obtain ⟨A1, q1, be, e1, sl1, _, st1⟩ := sl_open Tryz.underlying22 c57 (by decide) k57 rfl t1 (hw 1 22 rfl y1 hy1)
  obtain ⟨A2, q2, br, e2, sl2, _, st2⟩ := sl_open Tryz.underlying23 c59 (by decide) k59 rfl t2 (hw 2 23 rfl y2 hy2)
  obtain ⟨A3, q3, bg, e3, sl3, _, st3⟩ := sl_open Tryz.underlying24 c61 (by decide) k61 rfl t3 (hw 3 24 rfl y3 hy3)
  obtain ⟨A4, q4, bl, e4, sl4, _, st4⟩ := sl_open Tryz.underlying25 c63 (by decide) k63 rfl t4 (hw 4 25 rfl y4 hy4)
  obtain ⟨A5, q5, bx, e5, sl5, _, st5⟩ := sl_open Tryz.underlying26 c67 (by decide) k67 rfl t5 (hw 5 26 rfl y5 hy5)
  have f0 := (List.cons.inj (show [v0] = [_] from e0)).1
  have f1 := (List.cons.inj (show [v1] = [_] from e1)).1
  have f2 := (List.cons.inj (show [v2] = [_] from e2)).1
  have f3 := (List.cons.inj (show [v3] = [_] from e3)).1
  have f4 := (List.cons.inj (show [v4] = [_] from e4)).1
  have f5 := (List.cons.inj (show [v5] = [_] from e5)).1
  have f6 := (List.cons.inj (show [v6] = [_] from e6)).1
  subst f0 f1 f2 f3 f4 f5 f6
  exact ⟨⟨U, S, be, br, bg, bl, bx⟩, ⟨A1, A2, A3, A4, A5, q1, q2, q3, q4, q5⟩, rfl, ⟨sl1, sl2, sl3, sl4, sl5⟩, ⟨wf64 hU, wf64 hS⟩, st1⟩
end
/-- From a contract to the call's end. -/
theorem ends_true {f : FuncId} {args : Array Value} {W : World} (h : Ct Tryz.prog f args W [] (fun v _ => v = .bool true)) : Calls Tryz.prog f args W fun e W' => e = .returned (.bool true) ∧ Below W.heap.size W W' :=
  (h.2 W (Inv.start W)).mono fun e W' ⟨v, h', e1, hi, hv⟩ => ⟨by rw [e1, hv], hi.below⟩
set_option maxRecDepth 100000 in
theorem same_lifted (os : Os) (started : os.Started) (H : Type) (enc : TypeId × Value → H) :
    ReturnsInHanded {} Tryz.checked os 6 .any (fun w args => (Rows.bookSameSpec.pre enc Tryz.prog Tryz.f6 [] false w args ∧ laidMetH Tryz.prog laidW w) ∧ sizedMet enc Tryz.prog Tryz.f6 (OpenSpec.ofChange Rows.bookSameSpec) false w args)
      (Rows.bookSameSpec.post enc Tryz.prog Tryz.f6 false true false false) := by
  refine returnsInHanded_of_change_and (C := Tryz.checked) (X := fun w _ => laidMetH Tryz.prog laidW w) (fun _ _ _ hh h => h.of_heap hh) ownT started (by kernel_rfl) Tryz.func6
    (ChangeSpec.witness_shaped (enc := enc) (C := Tryz.checked) (os := os) (X := fun w _ => laidMetH Tryz.prog laidW w) false (World.laidAll Tryz.prog os laidW) #[.agg #[.int .i64 0, .slice none 0 0, .slice none 0 0, .slice none 0 0, .slice none 0 0, .slice none 0 0, .int .i64 0], .int .u8 0] 8 (World.laidAll_os _ _ _)
      (World.shaped_of_ZipB (by kernel_rfl) (by kernel_rfl)) (by kernel_rfl) (by kernel_rfl) (by kernel_rfl)
      (by rw [MakeChecks.laidMetH_plain _ _ _ (by kernel_rfl)]; exact laidMet_laidAll _ (by kernel_rfl) (by kernel_rfl))) ?_
  intro W base args ds gs before hval0 hW hc hz hL _
  have hval : ∀ (j : Nat) t v, Tryz.f6.params[j]? = some t → args[j]? = some v → Value.okWide Tryz.prog W .any base t v := hval0
  have hW' := hW
  obtain ⟨p, q, hA0, hV, rfl, _, _⟩ := hW
  have hA : DataW.TrodAll enc Tryz.prog W 0 (fun _ => true) true Tryz.f6.params.toList args.toList ds p := hA0
  rw [Tryz.params6] at hA hval
  obtain ⟨v0, v1, d0, d1, p0, p1, rfl, rfl, rfl, h0, h1⟩ := trodAll_two hA
  obtain ⟨rfl, rfl⟩ := trodVars_none hV
  obtain ⟨x, rfl, rfl, rfl, wx⟩ := open_int Tryz.underlying5 (hval 1 5 v1 rfl rfl) h1
  obtain ⟨cs, rfl, hsz⟩ := okWide_struct Tryz.underlying28 (hval 0 28 v0 rfl rfl)
  obtain ⟨fuel, h0⟩ := h0
  have hz' : ∀ n ∈ d0.weights Tryz.prog 28, n ≤ 140737488351232 := fun n hn => by
    have hm : n ∈ DataW.weightsEach Tryz.prog (Tryz.f6.params.toList ++ Rows.bookSameSpec.plain.varTypes Tryz.prog) ([d0, .lit (.int .u8 x)] ++ []) :=
      DataW.weights_mem_each (j := 0) (t := 28) (d := d0) (by rw [Tryz.params6]; rfl) rfl n hn
    exact of_decide_eq_true (List.all_eq_true.1 hz n hm)
  obtain ⟨b, a, hcs, hB, hS7, hSt⟩ := book_open h0 hz'
  obtain ⟨hx0, hx1⟩ := wf8 wx
  obtain ⟨m, rfl⟩ : ∃ m : Nat, x = (m : Int) := ⟨x.toNat, by omega⟩
  have hcs' : cs = #[.int .i64 b.U, .slice a.e b.e.length a.ce, .slice a.r b.r.length a.cr, .slice a.g b.g.length a.cg, .slice a.l b.l.length a.cl, .slice a.x b.x.length a.cx, .int .i64 b.S] := Array.toList_inj.1 (by simpa [Value.cells] using hcs)
  subst hcs'
  refine (ends_true (bookSame6 W (words_of hL) b a hB m (by omega) hS7 hSt)).mono fun e W' ⟨he, hb⟩ => ?_
  subst he
  exact ⟨_, rfl, post_below laidOutT (by rw [Tryz.params6]; kernel_rfl) rfl hW' (fun _ _ _ => trodAll_mk1 (shut_bool Tryz.underlying4 _)) rfl rfl hb⟩
theorem same_named : Tryz.prog.funcNamed "louvre/louvrelaw31.BookSame" = some 6 := by kernel_rfl
theorem same_wrap : Tryz.f6.isWrapper Tryz.prog Rows.bookSameRow.wrapper Rows.bookSameRow.mainSum := by unfold Func.isWrapper; first | (rw [if_pos (by decide +kernel)]; kernel_rfl) | (rw [if_neg (by decide +kernel)]; exact ⟨rfl, rfl⟩)
theorem same_inst : Tryz.f6.isInstance Tryz.prog Rows.bookSameRow.origin Rows.bookSameRow.targs := of_decide_eq_true (by kernel_rfl)
theorem bookSame_holds : Rows.BookSameSaid :=
  OpenClaim.holds_of_wide 6 Tryz.f6 rfl rfl rfl rfl rfl rfl rfl ⟨rfl, rfl, rfl, rfl, rfl⟩ rfl rfl rfl rfl rfl same_named Tryz.func6 same_facts same_inst same_wrap
    (fun os started H enc _ => same_lifted os started H enc)
theorem same_text : OpenClaim.wfByText (OpenSpec.ofChange Rows.bookSameSpec) Rows.bookSameRow = true := by kernel_rfl
theorem same_main : Tryz.pinned.checked.prog.mainIs = some (true, "187e91e4e5154dc8e39b8dd5ec7380bbf60fb8aa6ec324944b924762dd45dce4".toList) := by kernel_rfl
theorem same_goes : false = Rows.bookSameRow.goesBy Tryz.pinned.checked.prog := by kernel_rfl
theorem same_looks : true = Tryz.pinned.checked.prog.looks [] := by kernel_rfl
theorem same_stand : ([28, 5].all fun u => !Tryz.prog.wantsStandIn u) = true := by kernel_rfl
theorem bookSame_card_holds : Rows.BookSameCardSaid :=
  Claim7.holds_tied_plain_at .later [] [.data] true (true, "187e91e4e5154dc8e39b8dd5ec7380bbf60fb8aa6ec324944b924762dd45dce4") true bookSame_holds (fun _ h => by cases h) same_text (fun _ h => by cases h) bookSame_row_tie rfl ⟨rfl, rfl⟩ same_main rfl
    (fun f fn hf hfn => by
      obtain rfl : f = 6 := Option.some.inj (same_named.symm.trans hf) |>.symm
      obtain rfl : fn = Tryz.f6 := (Option.some.inj (Tryz.func6.symm.trans hfn)).symm
      exact ⟨same_looks, fun j t ht => by
        have ht' : (#[28, 5] : Array TypeId)[j]? = some t := by rw [← Tryz.params6]; exact ht
        have hm : t ∈ [28, 5] := by simpa using Array.mem_of_getElem? ht'
        exact (show Tryz.prog.wantsStandIn t = false by simpa using List.all_eq_true.1 same_stand t hm)⟩)
    same_goes
#print axioms bookSame_card_holds
end Go.Proofs.YtpmjbobgglgnaaaGreatDoor
