/- Rows of one's own: made by a literal, by append; read as slices. -/
import Derived.Test.YtpmjbobgglgnaaaGreatDoorV4
import Derived.Deep.AppendSrc
namespace Go.Proofs.YtpmjbobgglgnaaaGreatDoor
open Go.RowKit
set_option linter.unusedSimpArgs false
set_option linter.unusedVariables false
/-- In every world that is held so the slice's n elements are these cells. -/
structure RowIn (k : Nat) (w0 : World) (h : List Bx) (A : Option Addr) (n : Nat) (cells : List Value) : Prop where
  len : cells.length = n * k
  ad : n ≠ 0 → A = some ⟨gOf A, oOf A, none⟩
  one : all1 cells = true
  cell : ∀ W, Inv w0 h W → ∀ j v, cells[j]? = some v → W.cell? ⟨gOf A, oOf A + j, none⟩ = some v
theorem RowIn.mono {k : Nat} {w0 : World} {h h' : List Bx} {A : Option Addr} {n : Nat} {cells : List Value} (H : RowIn k w0 h A n cells) (hs : h.Sublist h') : RowIn k w0 h' A n cells :=
  ⟨H.len, H.ad, H.one, fun W hi => H.cell W (hi.sub hs)⟩
theorem RowIn.own {k : Nat} {w0 : World} {h : List Bx} {r n : Nat} {cs : Array Value} {t : TypeId} {cells sp : List Value} (hm : (⟨r, cs, t⟩ : Bx) ∈ h) (hc : cs.toList = cells ++ sp) (hl : cells.length = n * k) (h1 : all1 cells = true) :
    RowIn k w0 h (some ⟨r, 0, none⟩) n cells :=
  ⟨hl, fun _ => rfl, h1, fun W hi j v hj => by
    rw [show gOf (some (⟨r, 0, none⟩ : Addr)) = r from rfl, show oOf (some (⟨r, 0, none⟩ : Addr)) = 0 from rfl, Nat.zero_add, hi.cell _ hm, ← Array.getElem?_toList, hc]
    obtain ⟨hlt, _⟩ := List.getElem?_eq_some_iff.1 hj
    rw [List.getElem?_append_left hlt]; exact hj⟩
theorem flat_at {α : Type} {E : α → List Value} {k : Nat} (hE : ∀ e, (E e).length = k) : ∀ (xs : List α) (m j : Nat) (e : α) (u : Value), xs[m]? = some e → (E e)[j]? = some u → (xs.flatMap E)[m * k + j]? = some u
  | [], m, _, _, _, h, _ => by simp at h
  | x :: xs, 0, j, e, u, h, hu => by
    simp only [List.getElem?_cons_zero, Option.some.injEq] at h
    subst h
    rw [List.flatMap_cons, Nat.zero_mul, Nat.zero_add, List.getElem?_append_left (List.getElem?_eq_some_iff.1 hu).1]; exact hu
  | x :: xs, m + 1, j, e, u, h, hu => by
    have ih := flat_at hE xs m j e u (by simpa using h) hu
    rw [List.flatMap_cons, List.getElem?_append_right (by rw [hE, Nat.succ_mul]; omega), hE, show (m + 1) * k + j - k = m * k + j by rw [Nat.succ_mul]; omega]
    exact ih
theorem flat_len {α : Type} {E : α → List Value} {k : Nat} (hE : ∀ e, (E e).length = k) (xs : List α) : (xs.flatMap E).length = xs.length * k := by
  induction xs with
  | nil => simp
  | cons x xs ih => simp [ih, hE, Nat.succ_mul, Nat.add_comm]
theorem flat_all1 {α : Type} {E : α → List Value} (h1 : ∀ e, all1 (E e) = true) (xs : List α) : all1 (xs.flatMap E) = true := by
  have app : ∀ a b, all1 a = true → all1 b = true → all1 (a ++ b) = true := fun a b ha hb => by
    induction a with
    | nil => exact hb
    | cons v a ih => simp only [all1, Bool.and_eq_true, List.cons_append] at ha ⊢; exact ⟨ha.1, ih ha.2⟩
  induction xs with
  | nil => rfl
  | cons x xs ih => exact app _ _ (h1 x) ih
/-- From cells to elements. -/
theorem RowIn.sl {α : Type} {E : α → List Value} {k : Nat} {w0 : World} {h : List Bx} {A : Option Addr} {xs : List α} (H : RowIn k w0 h A xs.length (xs.flatMap E)) (hE : ∀ e, (E e).length = k) (hk : 0 < k) (hsm : xs.length ≤ 9223372036854775807) : SlIn E k w0 h A xs where
  small := hsm
  ad := fun hx => H.ad (by simpa using hx)
  lt := fun W hi hx => by
    cases xs with
    | nil => exact absurd rfl hx
    | cons x xs =>
      obtain ⟨u, hu⟩ : ∃ u, (E x)[0]? = some u := ⟨_, List.getElem?_eq_getElem (by rw [hE]; exact hk)⟩
      have := H.cell W hi 0 u (by have := flat_at hE (x :: xs) 0 0 x u (by simp) hu; simpa using this)
      exact World.block_lt_of_cell? W _ this
  cell := fun W hi m e he j u hu => by rw [Nat.add_assoc]; exact H.cell W hi _ u (flat_at hE xs m j e u he hu)
/-- From elements to cells. -/
theorem SlIn.row {α : Type} {E : α → List Value} {k : Nat} {w0 : World} {h : List Bx} {A : Option Addr} {xs : List α} (H : SlIn E k w0 h A xs) (hE : ∀ e, (E e).length = k) (hk : 0 < k) (h1 : ∀ e, all1 (E e) = true) : RowIn k w0 h A xs.length (xs.flatMap E) where
  len := flat_len hE xs
  ad := fun hx => H.ad (by rintro rfl; exact hx rfl)
  one := flat_all1 h1 xs
  cell := fun W hi j v hj => by
    have hlt : j < xs.length * k := by rw [← flat_len hE]; exact (List.getElem?_eq_some_iff.1 hj).1
    have hm : j / k < xs.length := Nat.div_lt_of_lt_mul (by rw [Nat.mul_comm]; exact hlt)
    have he : xs[j / k]? = some xs[j / k] := List.getElem?_eq_getElem hm
    have hlt2 : j % k < (E xs[j / k]).length := by rw [hE]; exact Nat.mod_lt _ hk
    obtain ⟨u, hu⟩ : ∃ u, (E xs[j / k])[j % k]? = some u := ⟨_, List.getElem?_eq_getElem hlt2⟩
    have e1 := flat_at hE xs (j / k) (j % k) _ u he hu
    rw [show j / k * k + j % k = j by rw [Nat.mul_comm]; exact Nat.div_add_mod j k] at e1
    rw [hj, Option.some.injEq] at e1
    have := H.cell W hi (j / k) _ he (j % k) u hu
    rwa [Nat.add_assoc, show j / k * k + j % k = j by rw [Nat.mul_comm]; exact Nat.div_add_mod j k, ← e1] at this
/-- The elements, where the slice's row is one's own. -/
theorem SlIn.own {α : Type} {E : α → List Value} {k : Nat} {w0 : World} {h : List Bx} {r : Nat} {cs : Array Value} {t : TypeId} {sp : List Value} (xs : List α) (hE : ∀ e, (E e).length = k) (h1 : ∀ e, all1 (E e) = true) (hk : 0 < k) (hsm : xs.length ≤ 9223372036854775807)
    (hm : (⟨r, cs, t⟩ : Bx) ∈ h) (hc : cs.toList = xs.flatMap E ++ sp) : SlIn E k w0 h (some ⟨r, 0, none⟩) xs :=
  (RowIn.own hm hc (flat_len hE xs) (flat_all1 h1 xs)).sl hE hk hsm

section
variable {w0 : World} {n : Nat} {Q : AQ} {s : Sl} {h : List Bx} {rest : List CO} {g : Option (Option Tmp × Bool)} {d : Nat} {ty t : TypeId} {x y : Operand} {op : Op}
/-- A new row of one's own. -/
theorem ac_newS {cs : Array Value} {e : TypeId} {len cap : Nat} (hw : Wan s g true) (hd : Nat.blt d n = true) (ho : oks s op = true)
    (hv : ∀ W, Inv w0 h W → (execOp (rho s) (CO.oper ⟨some d, op, ty, g⟩)).run Tryz.prog W = .ok (.value (.slice (some ⟨W.heap.size, 0, none⟩) len cap)) (W.alloc (.cells cs e)))
    (H : ∀ r, AC Tryz.prog w0 n Q rest ((d, .slice (some ⟨r, 0, none⟩) len cap) :: s) (⟨r, cs, e⟩ :: h)) : AC Tryz.prog w0 n Q (⟨some d, op, ty, g⟩ :: rest) s h := fun D tm W hk hi => .inr ⟨hw n tm hk, by
    simp only [Oper.wp, ev_defers tm D]
    rw [rho_ok hk ho _ rfl, hv W hi]
    simp only [Oper.upon]
    rw [show (CO.oper ⟨some d, op, ty, g⟩).dst = some d from rfl, put_eq]; exact ⟨rfl, _, _, hk.put hd, hi.alloc cs e, H W.heap.size⟩⟩
/-- A row of one's own that grows by append: nothing yet, or one block. -/
def OwnR (e : TypeId) (k : Nat) (cells : List Value) (len : Nat) (v : Value) (hb : List Bx) : Prop :=
  (v = .slice none 0 0 ∧ len = 0 ∧ cells = [] ∧ hb = []) ∨
  ∃ r c sp, v = .slice (some ⟨r, 0, none⟩) len c ∧ hb = [⟨r, (cells ++ sp).toArray, e⟩] ∧ cells.length = len * k ∧ (cells ++ sp).length = c * k ∧ len ≤ c
/-- A sub-list is left out. -/
inductive RemL (hb : List Bx) : List Bx → List Bx → Prop
  | head (h : List Bx) : RemL hb (hb ++ h) h
  | tail (b : Bx) {h h' : List Bx} (H : RemL hb h h') : RemL hb (b :: h) (b :: h')
theorem RemL.split {hb h h' : List Bx} (H : RemL hb h h') : ∃ p q, h = p ++ (hb ++ q) ∧ h' = p ++ q := by
  induction H with
  | head h => exact ⟨[], h, rfl, rfl⟩
  | tail b _ ih => obtain ⟨p, q, rfl, rfl⟩ := ih; exact ⟨b :: p, q, rfl, rfl⟩
theorem Inv.perm {w0 W : World} {h h' : List Bx} (H : Inv w0 h W) (hp : h.Perm h') : Inv w0 h' W :=
  ⟨H.below, fun x hx => H.own x (hp.mem_iff.2 hx), fun x hx => H.ge x (hp.mem_iff.2 hx), (hp.map _).nodup_iff.1 H.nodup⟩
theorem RowIn.src {k : Nat} {A : Option Addr} {m c : Nat} {news : List Value} {W : World} {tx : TypeId} {e' : TypeId} (H : RowIn k w0 h A m news) (hi : Inv w0 h W) (ht : Tryz.prog.underlying tx = some (.slice e')) (hk : 0 < k) : Src Tryz.prog k tx (.slice A m c) m news W := by
  have key : ∀ W', Inv w0 h W' → (Builtin.firstCells k m (.slice A m c)).run Tryz.prog W' = .ok news.toArray W' := fun W' hi' => by
    cases A with
    | none =>
      have hm : m = 0 := by
        cases m with
        | zero => rfl
        | succ m => have := H.ad (by omega); cases this
      have hl := H.len
      rw [hm, Nat.zero_mul] at hl
      rw [List.length_eq_zero_iff.1 hl]
      exact run_firstCells_none (P := Tryz.prog) W' k m m c
    | some a =>
      refine run_firstCells_some (P := Tryz.prog) W' k m a m c news H.len (fun j v hj => ?_)
      have hm : m ≠ 0 := by
        rintro rfl
        have hl := H.len
        rw [Nat.zero_mul] at hl
        rw [List.length_eq_zero_iff.1 hl] at hj
        simp at hj
      have ha := H.ad hm
      rw [Option.some.injEq] at ha
      rw [ha, add0]
      exact H.cell W' hi' j v hj
  exact ⟨.inl ⟨e', ht⟩, fun _ => rfl, key W hi, key W.drew hi.drew, H.len, all1_mem H.one⟩
theorem setCells_many (b : Nat) : ∀ (vs : List Value) (o : Nat) (W : World), W.setCells b o vs = setMany W b o vs
  | [], _, _ => rfl
  | v :: vs, o, W => by simp only [World.setCells, setMany]; exact setCells_many b vs (o + 1) _
theorem setsA_mid : ∀ (vs a b c : List Value), b.length = vs.length → setsA (a ++ b ++ c).toArray a.length vs = (a ++ vs ++ c).toArray
  | [], a, b, c, h => by simp [setsA, List.length_eq_zero_iff.1 h]
  | v :: vs, a, [], c, h => by simp at h
  | v :: vs, a, u :: b, c, h => by
    simp only [setsA]
    have := setsA_mid vs (a ++ [v]) b c (by simpa using h)
    simp only [List.length_append, List.length_cons, List.length_nil, Nat.zero_add] at this
    rw [show (a ++ u :: b ++ c).toArray.setIfInBounds a.length v = (a ++ [v] ++ b ++ c).toArray by simp, this]
    simp
/-- append to a row of one's own. -/
theorem ac_append {tx e e' : TypeId} {i : TypeInfo} {z : Value} {k len m c : Nat} {A : Option Addr} {v : Value} {cells news : List Value} {hb h0 : List Bx} (hx : ev s x = some v) (hy : ev s y = some (.slice A m c))
    (hO : OwnR e k cells len v hb) (hR : RemL hb h h0) (hN : RowIn k w0 h A m news) (ht : Tryz.prog.underlying t = some (.slice e)) (htx : Tryz.prog.underlying tx = some (.slice e')) (hi : Tryz.prog.info? e = some i) (hz : i.zero = some z) (hzk : z.cells.size = k) (hik : i.size = k) (hk : 0 < k)
    (hbnd : (len + m) * i.bytes ≤ 140737488355328) (hbnd2 : len + m ≤ 9223372036854775807) (hw : Wan s g true) (hd : Nat.blt d n = true)
    (H : ∀ v' hb', OwnR e k (cells ++ news) (len + m) v' hb' → AC Tryz.prog w0 n Q rest ((d, v') :: s) (hb' ++ h0)) :
    AC Tryz.prog w0 n Q (⟨some d, .call ⟨.builtin .append, #[x, y], #[t, tx]⟩, ty, g⟩ :: rest) s h := fun D tm W hk' hinv => .inr ⟨hw n tm hk', by
  have hsrc := hN.src (c := c) hinv htx hk
  rw [← hik] at hsrc
  have hexec : ∀ v' W', (Builtin.append_ #[t, tx] ty #[v, .slice A m c]).run Tryz.prog W = .ok v' W' → (execOp (Act.eval ⟨tm, []⟩) (CO.oper ⟨some d, .call ⟨.builtin .append, #[x, y], #[t, tx]⟩, ty, g⟩)).run Tryz.prog W = .ok (.value v') W' := fun v' W' he => by
    simp only [execOp, CO.oper, resolve, List.map_toArray, List.map_cons, List.map_nil, ev_ok (ds := []) hk' hx, ev_ok (ds := []) hk' hy, pure_bind, invoke, builtin, Sem.run_bind, he]
    rfl
  obtain ⟨p, q, rfl, rfl⟩ := hR.split
  have fin : ∀ v' W' hb', (Builtin.append_ #[t, tx] ty #[v, .slice A m c]).run Tryz.prog W = .ok v' W' → Inv w0 (hb' ++ (p ++ q)) W' → OwnR e k (cells ++ news) (len + m) v' hb' →
      Oper.wp Tryz.prog (CO.oper ⟨some d, .call ⟨.builtin .append, #[x, y], #[t, tx]⟩, ty, g⟩) ⟨tm, D⟩ W (fun a W' => a.defers = D ∧ ∃ s' h', Knows n s' a.tmps ∧ Inv w0 h' W' ∧ AC Tryz.prog w0 n Q rest s' h') (post w0 n D Q) := fun v' W' hb' he hi' ho' => by
    simp only [Oper.wp, ev_defers tm D, hexec v' W' he, Oper.upon]
    rw [show (CO.oper ⟨some d, .call ⟨.builtin .append, #[x, y], #[t, tx]⟩, ty, g⟩).dst = some d from rfl, put_eq]
    exact ⟨rfl, _, _, hk'.put hd, hi', H v' hb' ho'⟩
  have hpq : (p ++ q).Sublist (p ++ (hb ++ q)) := List.Sublist.append_left (List.sublist_append_right _ _) _
  have grow : ∀ (base : Option Addr) (sCap : Nat), v = .slice base len sCap → cells.length = len * k → (Builtin.firstCells i.size len (.slice base len sCap)).run Tryz.prog W.drew = .ok cells.toArray W.drew → sCap < len + m →
      Oper.wp Tryz.prog (CO.oper ⟨some d, .call ⟨.builtin .append, #[x, y], #[t, tx]⟩, ty, g⟩) ⟨tm, D⟩ W (fun a W' => a.defers = D ∧ ∃ s' h', Knows n s' a.tmps ∧ Inv w0 h' W' ∧ AC Tryz.prog w0 n Q rest s' h') (post w0 n D Q) := fun base sCap hv hcl hold hlt => by
    subst hv
    have he := run_append_grow_src W t tx ty e i z ht hi hz base len sCap cells hold (.slice A m c) m news hsrc hlt (by omega) (growslice_fits hlt hbnd)
    have hge := grownCap_ge W (len + m) sCap e
    refine fin _ _ [⟨W.heap.size, _, e⟩] he ((hinv.sub hpq).drew.alloc _ e) (.inr ⟨W.heap.size, _, (Builtin.zeroCells z.cells (grownCap W (len + m) sCap e - (len + m))).toList, rfl, ?_, ?_, ?_, hge⟩)
    · simp
    · simp [hcl, hN.len, Nat.add_mul]
    · have : (Builtin.zeroCells z.cells (grownCap W (len + m) sCap e - (len + m))).size = (grownCap W (len + m) sCap e - (len + m)) * k := by rw [size_zeroCells, hzk]
      simp [hcl, hN.len, this]
      have e3 : len + m + (grownCap W (len + m) sCap e - (len + m)) = grownCap W (len + m) sCap e := Nat.add_sub_cancel' hge
      rw [← Nat.add_mul, ← Nat.add_mul, ← Nat.add_assoc, e3]
  rcases hO with ⟨rfl, rfl, rfl, rfl⟩ | ⟨r, cp, sp, rfl, rfl, hcl, htot, hle⟩
  · rcases Nat.eq_zero_or_pos m with rfl | hm
    · have hnil : news = [] := by have := hN.len; rw [Nat.zero_mul] at this; exact List.length_eq_zero_iff.1 this
      have he : (Builtin.append_ #[t, tx] ty #[.slice none 0 0, .slice A 0 c]).run Tryz.prog W = .ok (.slice none 0 0) W := by
        simp [Builtin.append_, run_underlying ht, run_underlying htx, sizeOf, typeInfo, hi, hsrc.len, hsrc.cells]
      exact fin _ _ [] he hinv (.inl ⟨rfl, rfl, by rw [hnil]; rfl, rfl⟩)
    · exact grow none 0 rfl (by simp) (by simp [Builtin.firstCells]) (by omega)
  · have hmem : (⟨r, (cells ++ sp).toArray, e⟩ : Bx) ∈ p ++ ([⟨r, (cells ++ sp).toArray, e⟩] ++ q) := by simp
    rcases Nat.lt_or_ge cp (len + m) with hlt | hroom
    · refine grow (some ⟨r, 0, none⟩) cp rfl hcl ?_ hlt
      refine run_firstCells_some (P := Tryz.prog) W.drew i.size len ⟨r, 0, none⟩ len cp cells (by rw [hik]; exact hcl) (fun j u hj => ?_)
      rw [add0, Nat.zero_add, hinv.drew.cell _ hmem]
      simp only [List.getElem?_toArray]
      rw [List.getElem?_append_left (List.getElem?_eq_some_iff.1 hj).1]; exact hj
    · have hfit : len * k + news.length ≤ (cells ++ sp).length := by rw [htot, hN.len, ← Nat.add_mul]; exact Nat.mul_le_mul_right k hroom
      have hsp : news.length ≤ sp.length := by rw [List.length_append, hcl] at hfit; omega
      have hsplit : sp = sp.take news.length ++ sp.drop news.length := (List.take_append_drop _ _).symm
      have htk : (sp.take news.length).length = news.length := by simp [hsp]
      have he := run_append_room_src W t tx ty e i ht hi r 0 len cp (.slice A m c) m news hsrc hroom
        (fun j hj => by
          rw [hinv.cell _ hmem, hik]
          simp only [List.getElem?_toArray]
          rw [List.getElem?_eq_getElem (by omega)]; rfl)
        (fun j hj => by rw [hik]; exact hinv.froz _ hmem _ (by simp only [List.size_toArray]; omega))
      rw [setCells_many, hik, Nat.zero_add] at he
      have hi2 := hinv.sets news (len * k)
      rw [← hcl, show (cells ++ sp).toArray = (cells ++ sp.take news.length ++ sp.drop news.length).toArray by rw [List.append_assoc, ← hsplit], setsA_mid news cells _ _ htk, hcl] at hi2
      refine fin _ _ [⟨r, (cells ++ news ++ sp.drop news.length).toArray, e⟩] he (hi2.perm ?_) (.inr ⟨r, cp, sp.drop news.length, rfl, rfl, ?_, ?_, hroom⟩)
      · simp only [List.singleton_append]
        exact List.perm_middle
      · simp [hcl, hN.len, Nat.add_mul]
      · rw [← htot]; simp; omega
  ⟩
end
end Go.Proofs.YtpmjbobgglgnaaaGreatDoor
