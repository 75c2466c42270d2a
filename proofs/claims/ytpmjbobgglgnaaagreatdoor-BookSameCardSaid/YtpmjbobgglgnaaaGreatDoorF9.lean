/- What came in: slices of flat structs, books, the table of the errors' words; what stands behind a call that turns nothing. -/
import Derived.Test.YtpmjbobgglgnaaaGreatDoorF4
import Derived.Test.YtpmjbobgglgnaaaGreatDoorE4
import Derived.Test.YtpmjbobgglgnaaaGreatDoorRows
import Derived.ProofKit
import Derived.OpenShut
import Derived.LaidMore
import Derived.Lay
import Derived.Carry
import Derived.SizedLaws
import Derived.SevenTiedAt
import Derived.Stop.Joined
namespace Go.Proofs.YtpmjbobgglgnaaaGreatDoor
open Go.RowKit Go.ChangeShapes Go.WideShapes
set_option linter.unusedVariables false
set_option linter.unusedSimpArgs false
section
variable {H : Type} {enc : TypeId × Value → H} {W : World} {spare : Nat → Bool} {held : Bool}
/-- Texts in a flat struct weigh what the reading weighs. -/
theorem trod_str {P : Program} {N : Nat} : ∀ (d t : Nat) (ks : List Kd), ksOf P d t = some ks → ∀ (fuel : Nat) (vs : List Value) (x : DataW H × List MemPlace), DataW.trod enc P W 0 spare held fuel t vs = some x →
    (∀ n ∈ x.1.weights P t, n ≤ N) → ∀ b, Value.string b ∈ vs → b.size ≤ N
  | 0, _, _, h => by cases h
  | d + 1, t, ks, h => by
    intro fuel vs x hx hN b hb
    cases hu : P.underlying t with
    | none => simp [ksOf, hu] at h
    | some kd =>
      have hh := h
      unfold ksOf at h
      rw [hu] at h
      cases kd
      case bool =>
        obtain ⟨c, rfl, _⟩ := DataW.trod_bool hu hx
        simp at hb
      case int k =>
        obtain ⟨n, rfl, _, hw⟩ := DataW.trod_int hu hx
        simp at hb
      case string =>
        obtain ⟨s, rfl, rfl, hw⟩ := DataW.trod_string hu hx
        simp only [List.mem_singleton, Value.string.injEq] at hb
        subst hb
        have := hN b.data.toList.length (by simp [DataW.weights])
        simpa using this
      case struct fs =>
        obtain ⟨hn, hf, hc⟩ := ksOf_struct hu hh
        obtain ⟨xs, n, rfl, rfl, hl, hxl, hi⟩ := DataW.trod_struct hu hx
        have key : ∀ (gs : List Field) (ks0 : List Kd), gs.foldl (stepK P (ksOf P d)) (some ks0) = some ks → (∀ g ∈ gs, ∃ y, DataW.trod enc P W 0 spare held n g.type ((vs.drop g.offset).take (P.cellsOf g.type)) = some y ∧ ∀ n ∈ y.1.weights P g.type, n ≤ N) →
            ∀ b, Value.string b ∈ vs.drop ks0.length → b.size ≤ N := by
          intro gs
          induction gs with
          | nil =>
            intro ks0 h0 _ b hb
            simp only [List.foldl_nil, Option.some.injEq] at h0
            subst h0
            rw [List.drop_eq_nil_of_le (by omega)] at hb; cases hb
          | cons g gs ih =>
            intro ks0 h0 hall b hb
            obtain ⟨ls, h1, h2, h3, h4⟩ := foldK_cons h0
            obtain ⟨y, hy, hyN⟩ := hall g List.mem_cons_self
            have hrec := trod_str d g.type ls h1 _ _ _ hy hyN
            rw [h2, h3] at hrec
            rw [← List.take_append_drop ls.length (vs.drop ks0.length), List.mem_append] at hb
            rcases hb with hb | hb
            · exact hrec b hb
            · refine ih _ h4 (fun g hg => hall g (List.mem_cons_of_mem _ hg)) b ?_
              rwa [List.length_append, ← List.drop_drop]
        have := key fs.toList [] hf (fun g hg => by
          obtain ⟨i, hlt, he⟩ := List.mem_iff_getElem.1 hg
          have h2 : fs[i]? = some g := by rw [← Array.getElem?_toList, List.getElem?_eq_getElem hlt, he]
          have h3 := hi i g h2
          have hix : i < xs.length := by rw [hxl]; simpa using hlt
          rw [h3]
          refine ⟨_, List.getElem?_eq_getElem hix, fun n hn2 => hN n ?_⟩
          simp only [DataW.weights, hu]
          exact DataW.weights_mem_each (j := i) (t := g.type) (d := xs[i].1) (by simp [h2]) (by simp [List.getElem?_eq_getElem hix]) n hn2) b
        simpa using this hb
      all_goals (simp at h)
theorem weightsAll_mem {P : Program} {e : TypeId} : ∀ {ds : List (DataW H)} {d : DataW H}, d ∈ ds → ∀ n ∈ d.weights P e, n ∈ DataW.weightsAll P e ds
  | d' :: ds, d, hd, n, hn => by
    simp only [DataW.weightsAll, List.mem_append]
    rcases List.mem_cons.1 hd with rfl | hd
    · exact .inl hn
    · exact .inr (weightsAll_mem hd n hn)
theorem sl_open {N t e k : Nat} {ks : List Kd} (ht : Tryz.prog.underlying t = some (.slice e)) (hc : Tryz.prog.cellsOf e = k) (hk : 0 < k) (hks : ksOf Tryz.prog 6 e = some ks) (hl : ks.length = k)
    {fuel : Nat} {cs : List Value} {x : DataW H × List MemPlace} (h : DataW.trod enc Tryz.prog W 0 spare held fuel t cs = some x) (hN : ∀ n ∈ x.1.weights Tryz.prog t, n ≤ N) :
    ∃ (A : Option Addr) (c : Nat) (xs : List (El ks)), cs = [.slice A xs.length c] ∧ SlIn El.cs k W [] A xs ∧ xs.length ≤ maxLen ∧ ∀ y ∈ xs, ∀ b, Value.string b ∈ El.cs y → b.size ≤ N := by
  rcases DataW.trod_slice ht h with ⟨rfl, _⟩ | ⟨a, len, cap, elems, rest, n, _, rfl, rfl, _, hlc, hcm, hlen, hel, _, _⟩
  · exact ⟨none, 0, [], rfl, ⟨by simp, by simp, by simp, by simp⟩, by simp, by simp⟩
  have key : ∀ q, q ≤ len → ∃ xs : List (El ks), xs.length = q ∧ (∀ y ∈ xs, ∀ b, Value.string b ∈ El.cs y → b.size ≤ N) ∧ ∀ m y, xs[m]? = some y → W.cells? 0 (a.add (m * k)) k = some (El.cs y) := by
    intro q
    induction q with
    | zero => exact fun _ => ⟨[], rfl, by simp, by simp⟩
    | succ q ih =>
      intro hq
      obtain ⟨xs, h1, hst, h2⟩ := ih (by omega)
      have hE := hel q (by omega)
      rw [hc, List.getElem?_eq_getElem (by omega), Option.bind_eq_some_iff] at hE
      obtain ⟨vs, e1, e2⟩ := hE
      have hs := trod_shp 6 e ks hks _ _ _ e2
      have hstr := trod_str (N := N) 6 e ks hks _ _ _ e2 (fun n hn => hN n (by
        simp only [DataW.weights, ht, List.mem_cons, List.mem_append]
        exact .inr (.inl (weightsAll_mem (d := elems[q].1) (List.mem_map_of_mem (List.getElem_mem _)) n hn))))
      refine ⟨xs ++ [⟨vs, hs⟩], by simp [h1], fun y hy => by
        rcases List.mem_append.1 hy with hy | hy
        · exact hst y hy
        · rw [List.mem_singleton.1 hy]; exact hstr, fun m y hy => ?_⟩
      rcases Nat.lt_or_ge m q with hm | hm
      · rw [List.getElem?_append_left (by omega)] at hy
        exact h2 m y hy
      · rw [List.getElem?_append_right (by omega)] at hy
        obtain ⟨rfl, hz⟩ : m = q ∧ y = ⟨vs, hs⟩ := by
          rcases Nat.lt_or_ge q m with hm2 | hm2
          · rw [List.getElem?_eq_none (by simp; omega)] at hy; cases hy
          · have : m = q := by omega
            subst this
            rw [h1, Nat.sub_self] at hy
            exact ⟨rfl, by simpa using hy.symm⟩
        rw [hz]; exact e1
  obtain ⟨xs, h1, hst, h2⟩ := key len (Nat.le_refl _)
  have hz : ∀ m y, xs[m]? = some y → a.spot = none ∧ a.block < W.heap.size ∧ ∀ j u, (El.cs y)[j]? = some u → W.cell? ⟨a.block, a.off + m * k + j, none⟩ = some u := by
    intro m y hy
    have h3 := h2 m y hy
    obtain ⟨_, hy2, hy3⟩ := World.cells?_some h3
    obtain ⟨e0, he0⟩ : ∃ y0, xs[0]? = some y0 := ⟨_, List.getElem?_eq_getElem (by have := (List.getElem?_eq_some_iff.1 hy).1; omega)⟩
    have h30 := h2 0 e0 he0
    obtain ⟨_, hy20, hy30⟩ := World.cells?_some h30
    have hsp : a.spot = none := by
      have := hy30 0 hk
      simp only [Nat.zero_mul] at this
      rw [show (a.add 0).add 0 = a by simp [Addr.add]] at this
      obtain ⟨u, hu⟩ : ∃ u, (El.cs e0)[0]? = some u := ⟨_, List.getElem?_eq_getElem (by omega)⟩
      rw [hu] at this
      unfold World.cell? at this
      split at this
      · split at this
        · cases this
        · rename_i hs; simpa using hs
      · cases this
    have hbl : a.block < W.heap.size := by
      have := World.cells?_block h30 hk
      simpa [Addr.add] using this
    refine ⟨hsp, hbl, fun j u hu => ?_⟩
    have hj : j < k := by have := (List.getElem?_eq_some_iff.1 hu).1; omega
    have := hy3 j hj
    rw [hu] at this
    rw [← this]
    obtain ⟨ab, ao, asp⟩ := a
    simp only at hsp
    subst hsp
    rw [add0, add0]
  refine ⟨some a, cap, xs, by rw [h1], ⟨by rw [h1]; have hm : maxLen ≤ 9223372036854775807 := (by decide); omega, fun hne => ?_, fun W' hi hne => ?_, fun W' hi m y hy j u hu => ?_⟩, by rw [h1]; omega, hst⟩
  · obtain ⟨y, hy⟩ : ∃ y, xs[0]? = some y := ⟨_, List.getElem?_eq_getElem (List.length_pos_iff.2 hne)⟩
    have := (hz 0 y hy).1
    obtain ⟨ab, ao, asp⟩ := a
    simp only at this; subst this; rfl
  · obtain ⟨y, hy⟩ : ∃ y, xs[0]? = some y := ⟨_, List.getElem?_eq_getElem (List.length_pos_iff.2 hne)⟩
    exact Nat.lt_of_lt_of_le (hz 0 y hy).2.1 hi.below.size
  · obtain ⟨_, hlt, hcell⟩ := hz m y hy
    rw [hi.below.cell (show (⟨gOf (some a), oOf (some a) + m * k + j, none⟩ : Addr).block < W.heap.size from hlt)]
    exact hcell j u hu
end
/-- Behind a call that turned nothing that was there. -/
theorem post_below {P : Program} {H : Type} {enc : TypeId × Value → H} {f : Func} {s : ChangeSpec} {apart fresh handsOn : Bool} {W W' : World} {args : Array Value} {v : Value} {ds gs : List (DataW H)} {before : List MemPlace}
    (hl : laidOutB P = true) (ht : f.params.toList.all (fun t => P.readableRec t && decide (t < P.types.size)) = true) (hv : s.vars = [])
    (hW : DataW.Whole enc P f.params.toList s.vars apart W args.toList ds gs before)
    (hres : ∀ (b : Nat) (sp : Nat → Bool) (hd : Bool), DataW.TrodAll enc P W' b sp hd f.resultTypes.toList (v.resultList f.resultTypes.size) (s.fn H (ds ++ gs)).results [])
    (ha : (s.fn H (ds ++ gs)).args = ds) (hg : (s.fn H (ds ++ gs)).vars = []) (hb : Below W.heap.size W W') : s.post enc P f apart fresh handsOn false W args v W' := by
  have hlt : ∀ x ∈ before, x.block < W.heap.size := fun x hx => hW.lt x hx
  have hW2 := hW
  obtain ⟨p, q, hA, hV, rfl, hfz, hnd⟩ := hW
  rw [hv] at hV
  obtain ⟨rfl, rfl⟩ : gs = [] ∧ q = [] := trodVars_none hV
  have key : ∀ (ts : List TypeId) (vs : List Value) (ds : List (DataW H)) (ps : List MemPlace), ts.all (fun t => P.readableRec t && decide (t < P.types.size)) = true → (∀ x ∈ ps, x.block < W.heap.size) →
      DataW.TrodAll enc P W 0 (fun _ => true) true ts vs ds ps → DataW.TrodAll enc P W' 0 (fun b => decide (b < W.heap.size)) true ts vs ds ps := by
    intro ts
    induction ts with
    | nil => intro vs ds ps _ _ h; obtain ⟨rfl, rfl, rfl⟩ := trodAll_nil h; exact trodAll_mk0
    | cons t ts ih =>
      intro vs ds ps hall hlt h
      obtain ⟨v, vs', d, ds', p, q, rfl, rfl, rfl, hd, hrest⟩ := trodAll_cons h
      simp only [List.all_cons, Bool.and_eq_true, decide_eq_true_eq] at hall
      exact ⟨p, q, Below.trod hl hall.1.1 hall.1.2 hd hb (fun x hx => hlt x (List.mem_append_left _ hx)), ih _ _ _ (by simpa using hall.2) (fun x hx => hlt x (List.mem_append_right _ hx)) hrest, rfl⟩
  refine ⟨ds, [], p ++ [], [], p, [], hW2, hres _ _ _, ?_, ?_, hb.frame _, fun h => by cases h⟩
  · rw [ha]; exact key _ _ _ _ ht (fun x hx => hlt x (List.mem_append_left _ hx)) hA
  · rw [hv, hg]; rfl
theorem g0 : Tryz.prog.globalNamed "louvre/val.words" = some 0 := by kernel_rfl
theorem g0t : (Tryz.prog.globals[0]?).map (·.type) = some 277 := by kernel_rfl
theorem arr277 : (match Tryz.prog.underlying 277 with | some (.array 8 9) => true | _ => false) = true := by decide +kernel
theorem arr277' : Tryz.prog.underlying 277 = some (.array 8 9) := by
  have h := arr277
  split at h
  · rename_i hu; exact hu
  · cases h
def wordsB : List (List UInt8) := [[], [35, 68, 73, 86, 47, 48, 33], [35, 86, 65, 76, 85, 69, 33], [35, 78, 85, 77, 33], [35, 78, 47, 65], [35, 82, 69, 70, 33], [35, 67, 89, 67, 76, 69, 33], [35, 68, 69, 78, 73, 69, 68]]
theorem words_eq (ρ : Rho) : wordsV.map (sh ρ) = wordsB.map fun b => .string (ofL b) := rfl
theorem words_of {W : World} (h : laidMetH Tryz.prog [("louvre/val.words", Rows.laid_louvre_val_words)] W) : Words W := by
  rw [MakeChecks.laidMetH_plain _ _ _ (by kernel_rfl)] at h
  obtain ⟨ps, ⟨g, t, cs, fuel, p, q, hg, ht, hv, hd, _, _⟩, _, _⟩ := h
  obtain rfl := Option.some.inj (g0.symm.trans hg)
  obtain rfl := Option.some.inj (g0t.symm.trans ht)
  obtain ⟨xs, m, _, ex, hcl, hl, hel⟩ := DataW.trod_array arr277' hd
  have c9 : Tryz.prog.cellsOf 9 = 1 := by kernel_rfl
  have u9 : Tryz.prog.underlying 9 = some .string := str_ty rfl
  have hx : (xs.map (·.1)) = wordsB.map fun b => (.lit (.string b) : DataW Unit) := (DataW.agg.inj (Prod.mk.inj ex).1).symm
  have hcell : ∀ j b, wordsB[j]? = some b → W.cell? ⟨0, j, none⟩ = some (.string (ofL b)) := by
    intro j b hj
    have hj8 : j < 8 := (List.getElem?_eq_some_iff.1 hj).1
    have hE := hel j hj8
    rw [c9, Nat.mul_one, List.getElem?_eq_getElem (by omega)] at hE
    obtain ⟨z, e1, e2, _⟩ := DataW.trod_string u9 hE
    have e4 : (xs.map (·.1))[j]? = (wordsB.map fun b => (.lit (.string b) : DataW Unit))[j]? := by rw [hx]
    rw [List.getElem?_map, List.getElem?_map, List.getElem?_eq_getElem (by omega : j < xs.length), hj, e2] at e4
    have hz : z = ofL b := by
      simp only [Option.map_some, Option.some.injEq, DataW.lit.injEq, Lit.string.injEq] at e4
      cases z; simp only at e4; subst e4; rfl
    rw [World.var?_cell hg hv j, ← hz]
    have : cs.toList[j]? = some (.string z) := by
      have h0 : ((cs.toList.drop j).take 1)[0]? = some (.string z) := by rw [e1]; rfl
      simpa using h0
    simpa using this
  have h0 := hcell 0 [] rfl
  refine ⟨World.block_lt_of_cell? W _ h0, fun j v hj => ?_⟩
  rw [words_eq, List.getElem?_map, Option.map_eq_some_iff] at hj
  obtain ⟨b, hb, rfl⟩ := hj
  exact hcell j b hb
theorem ownT : ownKnob Tryz.prog.godebug = none := by kernel_rfl
theorem laidOutT : laidOutB Tryz.prog = true := by kernel_rfl
end Go.Proofs.YtpmjbobgglgnaaaGreatDoor
