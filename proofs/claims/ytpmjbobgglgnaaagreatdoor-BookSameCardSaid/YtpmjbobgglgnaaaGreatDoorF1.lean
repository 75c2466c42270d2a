/- Flat types: structs of numbers, texts and truth values: their cells told by kinds; equality; what a reading gives. -/
import Derived.Test.YtpmjbobgglgnaaaGreatDoorW2
import Derived.DeepKeys
import Derived.ChangeArms
namespace Go.Proofs.YtpmjbobgglgnaaaGreatDoor
open Go.RowKit
set_option linter.unusedVariables false
set_option linter.unusedSimpArgs false
inductive Kd where
  | i (k : IntKind) : Kd
  | s : Kd
  | b : Kd
def Kd.fits : Kd → Value → Bool
  | .i k, .int l x => decide (l = k) && (Lit.int k x).wf
  | .s, .string t => decide (t.size ≤ maxLen)
  | .b, .bool _ => true
  | _, _ => false
def shp : List Kd → List Value → Bool
  | [], [] => true
  | k :: ks, v :: vs => k.fits v && shp ks vs
  | _, _ => false
def toLit : Value → Lit
  | .int k x => .int k x
  | .string t => .string t.data.toList
  | .bool b => .bool b
  | _ => .bool false
theorem shp_len : ∀ {ks : List Kd} {vs : List Value}, shp ks vs = true → vs.length = ks.length
  | [], [], _ => rfl
  | k :: ks, v :: vs, h => by
    simp only [shp, Bool.and_eq_true] at h
    simp [shp_len h.2]
theorem fits_lit {k : Kd} {v w : Value} (hv : k.fits v = true) (hw : k.fits w = true) (h : toLit v = toLit w) : v = w := by
  cases k <;> cases v <;> simp only [Kd.fits, Bool.false_eq_true] at hv <;> cases w <;> simp only [Kd.fits, Bool.false_eq_true] at hw
  · simp only [Bool.and_eq_true, decide_eq_true_eq] at hv hw
    obtain ⟨rfl, _⟩ := hv
    obtain ⟨rfl, _⟩ := hw
    simp only [toLit, Lit.int.injEq, true_and] at h
    rw [h]
  · rename_i s t
    simp only [toLit, Lit.string.injEq] at h
    obtain ⟨⟨a⟩⟩ := s
    obtain ⟨⟨b⟩⟩ := t
    simp only at h
    rw [h]
  · simp only [toLit, Lit.bool.injEq] at h
    rw [h]
theorem shp_lit : ∀ {ks : List Kd} {vs ws : List Value}, shp ks vs = true → shp ks ws = true → vs.map toLit = ws.map toLit → vs = ws
  | [], [], [], _, _, _ => rfl
  | k :: ks, v :: vs, w :: ws, hv, hw, h => by
    simp only [shp, Bool.and_eq_true] at hv hw
    simp only [List.map_cons, List.cons.injEq] at h
    rw [fits_lit hv.1 hw.1 h.1, shp_lit hv.2 hw.2 h.2]
  | [], [], _ :: _, _, hw, _ => by cases hw
  | _ :: _, _ :: _, [], _, hw, _ => by cases hw
theorem shp_app : ∀ {ks ls : List Kd} {vs : List Value}, shp (ks ++ ls) vs = true → shp ks (vs.take ks.length) = true ∧ shp ls (vs.drop ks.length) = true
  | [], ls, vs, h => by simpa [shp] using h
  | k :: ks, ls, [], h => by cases h
  | k :: ks, ls, v :: vs, h => by
    simp only [List.cons_append, shp, Bool.and_eq_true] at h
    obtain ⟨h1, h2⟩ := shp_app h.2
    simp [shp, h.1, h1, h2]
theorem shp_join : ∀ {ks ls : List Kd} {vs ws : List Value}, shp ks vs = true → shp ls ws = true → shp (ks ++ ls) (vs ++ ws) = true
  | [], ls, [], ws, _, h => h
  | k :: ks, ls, v :: vs, ws, h1, h2 => by
    simp only [List.cons_append, shp, Bool.and_eq_true] at h1 ⊢
    exact ⟨h1.1, shp_join h1.2 h2⟩
theorem shp1 {k : Kd} : ∀ {vs : List Value}, shp [k] vs = true → ∃ v, vs = [v] ∧ k.fits v = true
  | [], h => by cases h
  | [v], h => ⟨v, rfl, by simpa [shp] using h⟩
  | _ :: _ :: _, h => by simp [shp] at h
def stepK (P : Program) (g : Nat → Option (List Kd)) (acc : Option (List Kd)) (f : Field) : Option (List Kd) := match acc with
  | none => none
  | some ks => bif Nat.beq f.offset ks.length then (match g f.type with
    | some ls => bif Nat.beq (P.cellsOf f.type) ls.length then some (ks ++ ls) else none
    | none => none) else none
/-- A flat type's kinds. -/
def ksOf (P : Program) : Nat → Nat → Option (List Kd)
  | 0, _ => none
  | d + 1, t => match P.underlying t with
    | some .bool => some [.b]
    | some (.int k) => some [.i k]
    | some .string => some [.s]
    | some (.struct fs) => bif fs.all (·.name != "_") then
        match fs.toList.foldl (stepK P (ksOf P d)) (some []) with
        | some ks => bif Nat.beq (P.cellsOf t) ks.length then some ks else none
        | none => none
      else none
    | _ => none
theorem foldK_none (P : Program) (d : Nat) : ∀ (fs : List Field), fs.foldl (stepK P (ksOf P d)) none = none
  | [] => rfl
  | f :: fs => foldK_none P d fs
theorem stepK_some {P : Program} {d : Nat} {ks0 ks1 : List Kd} {f : Field} (h : stepK P (ksOf P d) (some ks0) f = some ks1) : ∃ ls, ksOf P d f.type = some ls ∧ P.cellsOf f.type = ls.length ∧ f.offset = ks0.length ∧ ks1 = ks0 ++ ls := by
  simp only [stepK] at h
  cases ho : Nat.beq f.offset ks0.length with
  | false => rw [ho] at h; cases h
  | true =>
    rw [ho] at h
    simp only [cond_true] at h
    cases hk : ksOf P d f.type with
    | none => rw [hk] at h; cases h
    | some ls0 =>
      rw [hk] at h
      simp only at h
      cases hc : Nat.beq (P.cellsOf f.type) ls0.length with
      | false => rw [hc] at h; cases h
      | true =>
        rw [hc] at h
        simp only [cond_true, Option.some.injEq] at h
        exact ⟨ls0, rfl, Nat.eq_of_beq_eq_true hc, Nat.eq_of_beq_eq_true ho, h.symm⟩
theorem foldK_cons {P : Program} {d : Nat} {f : Field} {fs : List Field} {ks0 ks : List Kd} (h : (f :: fs).foldl (stepK P (ksOf P d)) (some ks0) = some ks) :
    ∃ ls, ksOf P d f.type = some ls ∧ P.cellsOf f.type = ls.length ∧ f.offset = ks0.length ∧ fs.foldl (stepK P (ksOf P d)) (some (ks0 ++ ls)) = some ks := by
  rw [List.foldl_cons] at h
  cases hs : stepK P (ksOf P d) (some ks0) f with
  | none => rw [hs, foldK_none] at h; cases h
  | some ks1 =>
    obtain ⟨ls, h1, h2, h3, rfl⟩ := stepK_some hs
    rw [hs] at h
    exact ⟨ls, h1, h2, h3, h⟩
theorem foldK_pre {P : Program} {d : Nat} : ∀ (fs : List Field) (ks0 ks : List Kd), fs.foldl (stepK P (ksOf P d)) (some ks0) = some ks → ∃ r, ks = ks0 ++ r
  | [], ks0, ks, h => ⟨[], by simp only [List.foldl_nil, Option.some.injEq] at h; simp [h]⟩
  | f :: fs, ks0, ks, h => by
    obtain ⟨ls, _, _, _, h'⟩ := foldK_cons h
    obtain ⟨r, hr⟩ := foldK_pre fs _ ks h'
    exact ⟨ls ++ r, by rw [hr, List.append_assoc]⟩
theorem ksOf_struct {P : Program} {d t : Nat} {ks : List Kd} {fs : Array Field} (hu : P.underlying t = some (.struct fs)) (h : ksOf P (d + 1) t = some ks) :
    fs.all (·.name != "_") = true ∧ fs.toList.foldl (stepK P (ksOf P d)) (some []) = some ks ∧ P.cellsOf t = ks.length := by
  unfold ksOf at h
  rw [hu] at h
  simp only at h
  cases hn : fs.all (·.name != "_") with
  | false => rw [hn] at h; cases h
  | true =>
    rw [hn] at h
    simp only [cond_true] at h
    cases hf : fs.toList.foldl (stepK P (ksOf P d)) (some []) with
    | none => rw [show fs.toList.foldl (stepK P (ksOf P d)) (some []) = none from hf] at h; cases h
    | some ks' =>
      rw [show fs.toList.foldl (stepK P (ksOf P d)) (some []) = some ks' from hf] at h
      simp only at h
      cases hc : Nat.beq (P.cellsOf t) ks'.length with
      | false => rw [hc] at h; cases h
      | true =>
        rw [hc] at h
        simp only [cond_true, Option.some.injEq] at h
        subst h
        exact ⟨rfl, rfl, Nat.eq_of_beq_eq_true hc⟩
theorem shp_at {ks0 ls r : List Kd} {vs : List Value} (h : shp (ks0 ++ (ls ++ r)) vs = true) : shp ls ((vs.drop ks0.length).take ls.length) = true := (shp_app (shp_app h).2).1
/-- A flat struct's cells read as these. -/
theorem lits_ok {P : Program} : ∀ (d t : Nat) (ks : List Kd), ksOf P d t = some ks → ∀ vs, shp ks vs = true → P.keyLits d t vs = some (vs.map toLit)
  | 0, _, _, h => by cases h
  | d + 1, t, ks, h => by
    intro vs hv
    cases hu : P.underlying t with
    | none => simp [ksOf, hu] at h
    | some kd =>
      have hh := h
      unfold ksOf at h
      rw [hu] at h
      unfold Program.keyLits
      rw [hu]
      cases kd
      case bool =>
        simp only [Option.some.injEq] at h; subst h
        obtain ⟨v, rfl, hq⟩ := shp1 hv
        cases v <;> simp [Kd.fits] at hq
        rfl
      case int k =>
        simp only [Option.some.injEq] at h; subst h
        obtain ⟨v, rfl, hq⟩ := shp1 hv
        cases v <;> simp only [Kd.fits, Bool.and_eq_true, decide_eq_true_eq, Bool.false_eq_true] at hq
        obtain ⟨rfl, hw⟩ := hq
        simp [toLit, hw]
      case string =>
        simp only [Option.some.injEq] at h; subst h
        obtain ⟨v, rfl, hq⟩ := shp1 hv
        cases v <;> simp only [Kd.fits, decide_eq_true_eq, Bool.false_eq_true] at hq
        simp [toLit, hq]
      case struct fs =>
        obtain ⟨hn, hf, hc⟩ := ksOf_struct hu hh
        have key : ∀ (gs : List Field) (ks0 : List Kd), gs.foldl (stepK P (ksOf P d)) (some ks0) = some ks →
            ∃ lss, gs.mapM (fun f => P.keyLits d f.type ((vs.drop f.offset).take (P.cellsOf f.type))) = some lss ∧ lss.flatten = (vs.drop ks0.length).map toLit := by
          intro gs
          induction gs with
          | nil =>
            intro ks0 h0
            simp only [List.foldl_nil, Option.some.injEq] at h0
            subst h0
            exact ⟨[], rfl, by rw [← shp_len hv]; simp⟩
          | cons g gs ih =>
            intro ks0 h0
            obtain ⟨ls, h1, h2, h3, h4⟩ := foldK_cons h0
            obtain ⟨r, hr⟩ := foldK_pre gs _ _ h4
            obtain ⟨lss, e1, e2⟩ := ih _ h4
            have hg := lits_ok d g.type ls h1 _ (shp_at (ks0 := ks0) (ls := ls) (r := r) (by rw [← List.append_assoc, ← hr]; exact hv))
            refine ⟨List.map toLit (List.take ls.length (List.drop ks0.length vs)) :: lss, ?_, ?_⟩
            · rw [List.mapM_cons, h2, h3, hg, Option.bind_eq_bind, Option.bind_some, e1]; rfl
            · rw [List.flatten_cons, e2, ← List.map_append, List.length_append, ← List.drop_drop, List.take_append_drop]
        obtain ⟨lss, e1, e2⟩ := key fs.toList [] hf
        have hl : vs.length = P.cellsOf t := by rw [hc, shp_len hv]
        simp only [hl, hn, and_self, if_true, e1, Option.map_some, e2]
        simp
      all_goals (simp at h)
/-- What a reading of a flat struct's cells gives. -/
theorem trod_shp {P : Program} {H : Type} {enc : TypeId × Value → H} {w : World} {base : Nat} {spare : Nat → Bool} {held : Bool} : ∀ (d t : Nat) (ks : List Kd), ksOf P d t = some ks →
    ∀ (fuel : Nat) (vs : List Value) x, DataW.trod enc P w base spare held fuel t vs = some x → shp ks vs = true
  | 0, _, _, h => by cases h
  | d + 1, t, ks, h => by
    intro fuel vs x hx
    cases hu : P.underlying t with
    | none => simp [ksOf, hu] at h
    | some kd =>
      have hh := h
      unfold ksOf at h
      rw [hu] at h
      cases kd
      case bool =>
        simp only [Option.some.injEq] at h; subst h
        obtain ⟨b, rfl, _⟩ := DataW.trod_bool hu hx
        rfl
      case int k =>
        simp only [Option.some.injEq] at h; subst h
        obtain ⟨n, rfl, _, hw⟩ := DataW.trod_int hu hx
        simp [shp, Kd.fits, hw]
      case string =>
        simp only [Option.some.injEq] at h; subst h
        obtain ⟨s, rfl, _, hw⟩ := DataW.trod_string hu hx
        simp [shp, Kd.fits, hw]
      case struct fs =>
        obtain ⟨hn, hf, hc⟩ := ksOf_struct hu hh
        obtain ⟨xs, n, rfl, _, hl, hxl, hi⟩ := DataW.trod_struct hu hx
        have key : ∀ (gs : List Field) (ks0 : List Kd), gs.foldl (stepK P (ksOf P d)) (some ks0) = some ks → (∀ g ∈ gs, ∃ y, DataW.trod enc P w base spare held n g.type ((vs.drop g.offset).take (P.cellsOf g.type)) = some y) →
            ∃ r, ks = ks0 ++ r ∧ shp r (vs.drop ks0.length) = true := by
          intro gs
          induction gs with
          | nil =>
            intro ks0 h0 _
            simp only [List.foldl_nil, Option.some.injEq] at h0
            subst h0
            exact ⟨[], by simp, by rw [List.drop_eq_nil_of_le (by omega)]; rfl⟩
          | cons g gs ih =>
            intro ks0 h0 hall
            obtain ⟨ls, h1, h2, h3, h4⟩ := foldK_cons h0
            obtain ⟨r, hr, hs⟩ := ih _ h4 (fun g hg => hall g (List.mem_cons_of_mem _ hg))
            obtain ⟨y, hy⟩ := hall g List.mem_cons_self
            have := trod_shp d g.type ls h1 _ _ _ hy
            rw [h2, h3] at this
            refine ⟨ls ++ r, by rw [hr, List.append_assoc], ?_⟩
            have := shp_join this hs
            rwa [List.length_append, ← List.drop_drop, List.take_append_drop] at this
        obtain ⟨r, hr, hs⟩ := key fs.toList [] hf (fun g hg => by
          obtain ⟨i, hlt, he⟩ := List.mem_iff_getElem.1 hg
          have h2 : fs[i]? = some g := by rw [← Array.getElem?_toList, List.getElem?_eq_getElem hlt, he]
          have h3 := hi i g h2
          rw [h3]
          exact ⟨_, List.getElem?_eq_getElem (by rw [hxl]; simpa using hlt)⟩)
        simp only [List.nil_append] at hr
        subst hr
        simpa using hs
      all_goals (simp at h)
end Go.Proofs.YtpmjbobgglgnaaaGreatDoor
