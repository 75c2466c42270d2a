/- Closed calls that the kernel carries out: regions that draw their order, carried out in every order that counts. -/
import Derived.Test.YtpmjbobgglgnaaaGreatDoorE12
namespace Go.Proofs.YtpmjbobgglgnaaaGreatDoor
noncomputable section
open Go.RowKit
set_option linter.unusedVariables false
set_option linter.unusedSimpArgs false
abbrev Log := List (Nat × Nat × Nat)
def lgFind : Log → Nat → Option (Nat × Nat)
  | [], _ => none
  | (j, a, b) :: l, k => bif Nat.ble a k && Nat.blt k b then some (j, a) else lgFind l k
def lgStart : Log → Nat → Option Nat
  | [], _ => none
  | (j, a, _) :: l, i => bif Nat.beq j i then some a else lgStart l i
def piOf (nx : Nat) (lg ls : Log) (k : Nat) : Nat :=
  bif Nat.blt k nx then k else match lgFind lg k with
    | some (j, a) => match lgStart ls j with
      | some a' => a' + (k - a)
      | none => k
    | none => k
theorem piOf_id {nx : Nat} {lg ls : Log} {k : Nat} (h : k < nx) : piOf nx lg ls k = k := by
  unfold piOf
  rw [show Nat.blt k nx = true from by rw [Nat.blt_eq]; exact h]; rfl
/-- The value of an operation that is calm over the blocks Hc. -/
def calmV (E : Ev) (call : FCall) (Hc : AH) (nx : Nat) (c : CO) (t : Tr) : Option AV :=
  match wantsA t c.g with
  | none => none
  | some false => some .und
  | some true =>
    match isFn c.op with
    | some (x, os) =>
      match evA t x, evAL t os.toList with
      | some (.fn f a cp), some vs =>
        match call f (a ++ vs ++ cp) Hc nx with
        | some (v, H', _) => bif bd nx v && subH Hc H' then some v else none
        | none => none
      | _, _ => none
    | none => E.y t Hc c.op c.ty
theorem calmV_ok {P : Program} {w0 : World} {E : Ev} {call : FCall} (hE : EvOk P w0 E) (hc : SCall P w0 call) {Hc : AH} {nx : Nat} {c : CO} {t : Tr} {v : AV} (h : calmV E call Hc nx c t = some v) (ht : TBd nx t) (hH : HBd nx Hc) :
    ∀ (ρ : Rho) (n : Nat) (s : Sl) (hf : List Bx), Kn ρ t s → Gr ρ Hc → Y P w0 n s (hl ρ Hc ++ hf) c (sh ρ v) := by
  intro ρ n s hf hk hg
  obtain ⟨dst, op, ty, g⟩ := c
  unfold calmV at h
  split at h
  · cases h
  · rename_i hw
    simp only [Option.some.injEq] at h; subst h
    simp only at hw
    simp only [sh]
    exact y_off (wantsA_ok hk hw)
  · rename_i hw
    simp only at hw h
    split at h
    · rename_i x os hfn
      obtain ⟨tys, rfl⟩ := isFn_ok hfn
      split at h
      · rename_i f a cp vs h1 h2
        split at h
        · rename_i v' H' nx' h3
          cases hb : (bd nx v' && subH Hc H') with
          | false => rw [hb] at h; cases h
          | true =>
            rw [hb] at h; simp only [cond_true, Option.some.injEq] at h; subst h
            simp only [Bool.and_eq_true] at hb
            have ba := evA_bd ht h1
            simp only [bd, Bool.and_eq_true] at ba
            obtain ⟨_, c4⟩ := hc _ _ _ _ _ _ _ h3 hH (bdL_app (bdL_app ba.1 (evAL_bd ht h2)) ba.2)
            refine y_callv (by have := evA_ok hk h1; simpa [sh] using this) (evAL_ok hk h2) (by simp [shL_map] : _ = shL ρ (a ++ vs ++ cp)) (wantsA_ok hk hw) fun h' hs => ?_
            obtain ⟨R, hR⟩ := hs.exists_perm_append
            have hct := c4 ρ (hf ++ R) (fun u h'' => u = sh ρ v' ∧ (hl ρ Hc ++ (hf ++ R)).Sublist h'') hg (fun ρ' hA hg' => ⟨sh_agree hA v' hb.1, by
              rw [← hl_agree hA hH]; exact (subH_ok hb.2).append_right _⟩)
            refine ⟨hct.1, fun W hi => (hct.2 W (hi.perm (by rw [← List.append_assoc]; exact hR))).mono ?_⟩
            rintro e W' ⟨u, h'', e1, e2, rfl, e3⟩
            exact ⟨_, h', e1, (e2.sub e3).perm (by rw [← List.append_assoc]; exact hR.symm), rfl, rfl⟩
        · cases h
      · cases h
    · exact hE.y h ρ n s hf dst g hk hg (wantsA_ok hk hw)
def pickC (E : Ev) (call : FCall) (n : Nat) (ops : Array Oper) (Hc : AH) (listed : Array Bool) (st : ES) : List Nat → Option (Nat × Nat × AV)
  | [] => none
  | i :: l => match ops[i]? with
    | none => none
    | some o => match (told ops o).dst with
      | none => pickC E call n ops Hc listed st l
      | some d => match calmV E call Hc st.nx (told ops o) st.t with
        | some v => bif Nat.blt d n && bd st.nx v && Region.noSelect ops && Region.free .any ops listed i && (Region.ready .any ops listed).contains i then some (i, d, v) else pickC E call n ops Hc listed st l
        | none => pickC E call n ops Hc listed st l
theorem pickC_ok {E : Ev} {call : FCall} {n : Nat} {ops : Array Oper} {Hc : AH} {listed : Array Bool} {st : ES} : ∀ {l : List Nat} {i d : Nat} {v : AV}, pickC E call n ops Hc listed st l = some (i, d, v) →
    ∃ o, ops[i]? = some o ∧ (told ops o).dst = some d ∧ calmV E call Hc st.nx (told ops o) st.t = some v ∧ Nat.blt d n = true ∧ bd st.nx v = true ∧ (Region.noSelect ops && Region.free .any ops listed i && (Region.ready .any ops listed).contains i) = true
  | [], i, d, v, h => by simp [pickC] at h
  | j :: l, i, d, v, h => by
    simp only [pickC] at h
    split at h
    · cases h
    · rename_i o ho
      split at h
      · exact pickC_ok h
      · rename_i d' hd
        split at h
        · rename_i u hu
          cases hb : (Nat.blt d' n && bd st.nx u && Region.noSelect ops && Region.free .any ops listed j && (Region.ready .any ops listed).contains j) with
          | false => rw [hb] at h; exact pickC_ok h
          | true =>
            rw [hb] at h; simp only [cond_true, Option.some.injEq, Prod.mk.injEq] at h
            obtain ⟨rfl, rfl, rfl⟩ := h
            simp only [Bool.and_eq_true] at hb
            exact ⟨o, ho, hd, hu, hb.1.1.1.1, hb.1.1.1.2, by simp only [Bool.and_eq_true]; exact ⟨⟨hb.1.1.2, hb.1.2⟩, hb.2⟩⟩
        · exact pickC_ok h
def leafD (nx : Nat) (G : ES) (lg : Log) (st : ES) (ls : Log) : Bool := leT (piOf nx lg ls) G.t st.t && leH (piOf nx lg ls) G.H st.H
def evAny (E : Ev) (call : FCall) (n : Nat) (ops : Array Oper) (Hc : AH) (nx : Nat) (G : ES) (lg : Log) : Nat → Array Bool → ES → Log → Bool
  | 0, listed, st, ls => (Region.ready .any ops listed).isEmpty && leafD nx G lg st ls
  | f + 1, listed, st, ls => match Region.ready .any ops listed with
    | [] => leafD nx G lg st ls
    | j :: r => match pickC E call n ops Hc listed st (j :: r) with
      | some (i, d, v) => evAny E call n ops Hc nx G lg f (listed.setIfInBounds i true) ⟨st.t.put d v, st.H, st.nx⟩ ls
      | none => (j :: r).all fun j => match ops[j]? with
        | some o => match stepCO E call n (told ops o) st with
          | some st' => subH Hc st'.H && evAny E call n ops Hc nx G lg f (listed.setIfInBounds j true) st' ((j, st.nx, st'.nx) :: ls)
          | none => false
        | none => false
theorem evAny_ok {P : Program} {w0 : World} {E : Ev} {call : FCall} (hE : EvOk P w0 E) (hc : SCall P w0 call) {n : Nat} (hn : n ≤ 1023) {ops : Array Oper} {Hc : AH} {nx : Nat} {G : ES} {lg : Log} (hHc : HBd nx Hc) :
    ∀ (f : Nat) (listed : Array Bool) (st : ES) (ls : Log), evAny E call n ops Hc nx G lg f listed st ls = true → st.Ok → nx ≤ st.nx → subH Hc st.H = true →
      ∀ (ρ0 ρ : Rho) (s : Sl) (hf : List Bx) (Q : AQ) (i : Nat) (pd : List Nat), Agree nx ρ0 ρ → Kn ρ st.t s → Gr ρ st.H → Gr ρ0 Hc → Calmly Q →
        (∀ ρ' s', Agree nx ρ0 ρ' → Gr ρ' G.H → Kn ρ' G.t s' → Q .normal s' (hl ρ' G.H ++ hf)) → AD P w0 n ops Q (hl ρ0 Hc ++ hf) i pd f listed s (hl ρ st.H ++ hf) := by
  have leaf : ∀ (f : Nat) (listed : Array Bool) (st : ES) (ls : Log), (Region.ready .any ops listed).isEmpty = true → leafD nx G lg st ls = true → nx ≤ st.nx →
      ∀ (ρ0 ρ : Rho) (s : Sl) (hf : List Bx) (Q : AQ) (i : Nat) (pd : List Nat), Agree nx ρ0 ρ → Kn ρ st.t s → Gr ρ st.H →
        (∀ ρ' s', Agree nx ρ0 ρ' → Gr ρ' G.H → Kn ρ' G.t s' → Q .normal s' (hl ρ' G.H ++ hf)) → AD P w0 n ops Q (hl ρ0 Hc ++ hf) i pd f listed s (hl ρ st.H ++ hf) := by
    intro f listed st ls he hlf hnx ρ0 ρ s hf Q i pd hA hk hg hq
    simp only [leafD, Bool.and_eq_true] at hlf
    obtain ⟨⟨R, hR⟩, hG⟩ := leH_ok (ρ := ρ) hlf.2 hg
    refine ad_doneC (h' := hl (fun k => ρ (piOf nx lg ls k)) G.H ++ hf) he (fun W hi => ?_) (hq (fun k => ρ (piOf nx lg ls k)) s (fun k hk => ?_) hG (fun j v hj => ?_))
    · refine (hi.perm (hR.append_right hf)).sub ?_
      rw [List.append_assoc]
      exact List.Sublist.append_left (List.sublist_append_right _ _) _
    · show ρ (piOf nx lg ls k) = ρ0 k
      rw [piOf_id hk]; exact hA k hk
    · have := leT_ok hlf.1 j v hj
      rw [hk j _ this, sh_rn]
  intro f
  induction f with
  | zero =>
    intro listed st ls h ok hnx hsub ρ0 ρ s hf Q i pd hA hk hg hgc hQ hq
    simp only [evAny, Bool.and_eq_true] at h
    exact leaf 0 listed st ls h.1 h.2 hnx ρ0 ρ s hf Q i pd hA hk hg hq
  | succ f ih =>
    intro listed st ls h ok hnx hsub ρ0 ρ s hf Q i pd hA hk hg hgc hQ hq
    simp only [evAny] at h
    split at h
    · rename_i hr
      exact leaf (f + 1) listed st ls (by rw [hr]; rfl) h hnx ρ0 ρ s hf Q i pd hA hk hg hq
    · rename_i j0 r0 hr
      have hHst : HBd st.nx Hc := hHc.mono hnx
      have hgc' : Gr ρ Hc := hgc.agree hA hHc
      have hsubl : (hl ρ0 Hc ++ hf).Sublist (hl ρ st.H ++ hf) := by
        rw [← hl_agree hA hHc]; exact (subH_ok hsub).append_right _
      split at h
      · rename_i p d v hp
        obtain ⟨o, ho, hd, hv, hdn, hbv, hs⟩ := pickC_ok hp
        have hy := calmV_ok hE hc hv ok.t hHst ρ n s hf hk hgc'
        rw [hl_agree hA hHc] at hy
        have hd' : d < 1023 := Nat.lt_of_lt_of_le (by rwa [Nat.blt_eq] at hdn) hn
        generalize hto : told ops o = c at hd hv hy
        obtain ⟨dst, op, ty, g⟩ := c
        simp only at hd
        subst hd
        show AD P w0 n ops Q (hl ρ0 Hc ++ hf) p pd (f + 1) listed s (hl ρ st.H ++ hf)
        exact ad_take ho hto hy hdn hs hQ hsubl (ih _ _ ls h ⟨ok.t.put hd' hbv, ok.H⟩ hnx hsub ρ0 ρ _ hf Q (p + 1) pd hA (hk.put hd') hg hgc hQ hq)
      · rw [List.all_eq_true] at h
        refine (ad_any (i := i) (pd := j0 :: r0) ?_ ?_ : AD P w0 n ops Q (hl ρ0 Hc ++ hf) i (j0 :: r0) (f + 1) listed s (hl ρ st.H ++ hf))
        · rw [hr, Bool.or_eq_false_iff]
          refine ⟨rfl, ?_⟩
          rw [Bool.not_eq_false', List.all_eq_true]
          intro x hx
          simpa using hx
        · intro j hj _ o ho
          have hjm := h j hj
          rw [ho] at hjm
          simp only at hjm
          split at hjm
          · rename_i st' hst'
            simp only [Bool.and_eq_true] at hjm
            obtain ⟨⟨a1, a2⟩, a3⟩ := stepCO_ok hE hc hn hst' ok
            refine a3 ρ s hf [] _ hk hg fun ρ' s' hA' hg' hk' => ?_
            have hA2 : Agree nx ρ0 ρ' := hA.trans hA' hnx
            refine ⟨?_, ih _ st' _ hjm.2 a2 (Nat.le_trans hnx a1) hjm.1 ρ0 ρ' s' hf Q i _ hA2 hk' hg' hgc hQ hq⟩
            rw [← hl_agree hA2 hHc]; exact (subH_ok hjm.1).append_right _
          · cases hjm
/-- Names of blocks that the region turns. -/
def modN (t : Tr) : List Oper → List Nat
  | [] => []
  | o :: l => match o.op with
    | .store _ x _ => (match evA t x with | some (.ptr k _) => k :: modN t l | _ => modN t l)
    | .call ⟨.builtin .append, ⟨[x, _]⟩, _⟩ => (match evA t x with | some (.sli k _ _ false _) => k :: modN t l | _ => modN t l)
    | _ => modN t l
def AHminus (ks : List Nat) : AH → AH
  | [] => []
  | (k, b) :: H => bif ks.any (Nat.beq k ·) then AHminus ks H else (k, b) :: AHminus ks H
theorem minus_mem {ks : List Nat} {k : Nat} {b : Bk} : ∀ {H : AH}, (k, b) ∈ AHminus ks H → (k, b) ∈ H
  | [], h => h
  | (j, x) :: H, h => by
    simp only [AHminus] at h
    cases hb : ks.any (Nat.beq j ·) with
    | true => rw [hb] at h; exact List.mem_cons_of_mem _ (minus_mem h)
    | false =>
      rw [hb] at h; simp only [cond_false] at h
      rcases List.mem_cons.1 h with e | h
      · exact e ▸ List.mem_cons_self
      · exact List.mem_cons_of_mem _ (minus_mem h)
theorem minus_sub {ρ : Rho} {ks : List Nat} : ∀ {H : AH}, (hl ρ (AHminus ks H)).Sublist (hl ρ H)
  | [] => List.Sublist.refl _
  | (j, x) :: H => by
    simp only [AHminus]
    cases ks.any (Nat.beq j ·) with
    | true => exact (minus_sub (H := H)).trans (List.sublist_cons_self _ _)
    | false => exact (minus_sub (H := H)).cons_cons _
/-- The first order is carried out; all others are held against it. -/
def evFst (E : Ev) (call : FCall) (n : Nat) (ops : Array Oper) (Hc : AH) (nx : Nat) : Nat → Array Bool → ES → Log → Option (ES × Log)
  | 0, listed, st, ls => bif (Region.ready .any ops listed).isEmpty then some (st, ls) else none
  | f + 1, listed, st, ls => match Region.ready .any ops listed with
    | [] => some (st, ls)
    | j :: r => match pickC E call n ops Hc listed st (j :: r) with
      | some (i, d, v) => evFst E call n ops Hc nx f (listed.setIfInBounds i true) ⟨st.t.put d v, st.H, st.nx⟩ ls
      | none => match ops[j]? with
        | none => none
        | some o => match stepCO E call n (told ops o) st with
          | none => none
          | some st' => bif subH Hc st'.H then
            match evFst E call n ops Hc nx f (listed.setIfInBounds j true) st' ((j, st.nx, st'.nx) :: ls) with
            | none => none
            | some (G, lg) => bif r.all (fun j => match ops[j]? with
                | some o => (match stepCO E call n (told ops o) st with
                  | some st' => subH Hc st'.H && evAny E call n ops Hc nx G lg f (listed.setIfInBounds j true) st' ((j, st.nx, st'.nx) :: ls)
                  | none => false)
                | none => false) then some (G, lg) else none
            else none
theorem evFst_ok {P : Program} {w0 : World} {E : Ev} {call : FCall} (hE : EvOk P w0 E) (hc : SCall P w0 call) {n : Nat} (hn : n ≤ 1023) {ops : Array Oper} {Hc : AH} {nx : Nat} (hHc : HBd nx Hc) :
    ∀ (f : Nat) (listed : Array Bool) (st : ES) (ls : Log) (G : ES) (lg : Log), evFst E call n ops Hc nx f listed st ls = some (G, lg) → st.Ok → nx ≤ st.nx → subH Hc st.H = true → (st.nx ≤ G.nx ∧ G.Ok) ∧
      ∀ (ρ0 ρ : Rho) (s : Sl) (hf : List Bx) (Q : AQ) (i : Nat) (pd : List Nat), Agree nx ρ0 ρ → Kn ρ st.t s → Gr ρ st.H → Gr ρ0 Hc → Calmly Q →
        (∀ ρ' s', Agree nx ρ0 ρ' → Gr ρ' G.H → Kn ρ' G.t s' → Q .normal s' (hl ρ' G.H ++ hf)) → AD P w0 n ops Q (hl ρ0 Hc ++ hf) i pd f listed s (hl ρ st.H ++ hf) := by
  intro f
  induction f with
  | zero =>
    intro listed st ls G lg h ok hnx hsub
    simp only [evFst] at h
    cases he : (Region.ready .any ops listed).isEmpty with
    | false => rw [he] at h; cases h
    | true =>
      rw [he] at h; simp only [cond_true, Option.some.injEq, Prod.mk.injEq] at h
      obtain ⟨rfl, rfl⟩ := h
      exact ⟨⟨Nat.le_refl _, ok⟩, fun ρ0 ρ s hf Q i pd hA hk hg hgc hQ hq => ad_done he (hq ρ s hA hg hk)⟩
  | succ f ih =>
    intro listed st ls G lg h ok hnx hsub
    simp only [evFst] at h
    split at h
    · rename_i hr
      simp only [Option.some.injEq, Prod.mk.injEq] at h
      obtain ⟨rfl, rfl⟩ := h
      exact ⟨⟨Nat.le_refl _, ok⟩, fun ρ0 ρ s hf Q i pd hA hk hg hgc hQ hq => ad_done (by rw [hr]; rfl) (hq ρ s hA hg hk)⟩
    · rename_i j0 r0 hr
      have hHst : HBd st.nx Hc := hHc.mono hnx
      have hsubl : ∀ (ρ0 ρ : Rho) (hf : List Bx), Agree nx ρ0 ρ → (hl ρ0 Hc ++ hf).Sublist (hl ρ st.H ++ hf) := fun ρ0 ρ hf hA => by
        rw [← hl_agree hA hHc]; exact (subH_ok hsub).append_right _
      split at h
      · rename_i p d v hp
        obtain ⟨o, ho, hd, hv, hdn, hbv, hs⟩ := pickC_ok hp
        have hd' : d < 1023 := Nat.lt_of_lt_of_le (by rwa [Nat.blt_eq] at hdn) hn
        obtain ⟨i1, i2⟩ := ih _ _ ls G lg h ⟨ok.t.put hd' hbv, ok.H⟩ hnx hsub
        refine ⟨i1, fun ρ0 ρ s hf Q i pd hA hk hg hgc hQ hq => ?_⟩
        have hy := calmV_ok hE hc hv ok.t hHst ρ n s hf hk (hgc.agree hA hHc)
        rw [hl_agree hA hHc] at hy
        generalize hto : told ops o = c at hd hv hy
        obtain ⟨dst, op, ty, g⟩ := c
        simp only at hd
        subst hd
        show AD P w0 n ops Q (hl ρ0 Hc ++ hf) p pd (f + 1) listed s (hl ρ st.H ++ hf)
        exact ad_take ho hto hy hdn hs hQ (hsubl ρ0 ρ hf hA) (i2 ρ0 ρ _ hf Q (p + 1) pd hA (hk.put hd') hg hgc hQ hq)
      · split at h
        · cases h
        · rename_i o ho
          split at h
          · cases h
          · rename_i st' hst'
            cases hsb : subH Hc st'.H with
            | false => rw [hsb] at h; cases h
            | true =>
              rw [hsb] at h; simp only [cond_true] at h
              split at h
              · cases h
              · rename_i G' lg' hG
                cases hall : (r0.all fun j => match ops[j]? with
                    | some o => (match stepCO E call n (told ops o) st with
                      | some st' => subH Hc st'.H && evAny E call n ops Hc nx G' lg' f (listed.setIfInBounds j true) st' ((j, st.nx, st'.nx) :: ls)
                      | none => false)
                    | none => false) with
                | false => rw [hall] at h; cases h
                | true =>
                  rw [hall] at h; simp only [cond_true, Option.some.injEq, Prod.mk.injEq] at h
                  obtain ⟨rfl, rfl⟩ := h
                  rw [List.all_eq_true] at hall
                  obtain ⟨⟨a1, a2⟩, a3⟩ := stepCO_ok hE hc hn hst' ok
                  obtain ⟨⟨i1, i2⟩, i3⟩ := ih _ _ _ _ _ hG a2 (Nat.le_trans hnx a1) hsb
                  refine ⟨⟨Nat.le_trans a1 i1, i2⟩, fun ρ0 ρ s hf Q i pd hA hk hg hgc hQ hq => ?_⟩
                  refine (ad_any (i := i) (pd := j0 :: r0) ?_ ?_ : AD P w0 n ops Q (hl ρ0 Hc ++ hf) i (j0 :: r0) (f + 1) listed s (hl ρ st.H ++ hf))
                  · rw [hr, Bool.or_eq_false_iff]
                    refine ⟨rfl, ?_⟩
                    rw [Bool.not_eq_false', List.all_eq_true]
                    intro x hx
                    simpa using hx
                  · intro j hj _ o' ho'
                    rcases List.mem_cons.1 hj with rfl | hj
                    · rw [ho] at ho'
                      cases ho'
                      refine a3 ρ s hf [] _ hk hg fun ρ' s' hA' hg' hk' => ?_
                      have hA2 : Agree nx ρ0 ρ' := hA.trans hA' hnx
                      refine ⟨?_, i3 ρ0 ρ' s' hf Q i _ hA2 hk' hg' hgc hQ hq⟩
                      rw [← hl_agree hA2 hHc]; exact (subH_ok hsb).append_right _
                    · have hjm := hall j hj
                      rw [ho'] at hjm
                      simp only at hjm
                      split at hjm
                      · rename_i st'' hst''
                        simp only [Bool.and_eq_true] at hjm
                        obtain ⟨⟨b1, b2⟩, b3⟩ := stepCO_ok hE hc hn hst'' ok
                        refine b3 ρ s hf [] _ hk hg fun ρ' s' hA' hg' hk' => ?_
                        have hA2 : Agree nx ρ0 ρ' := hA.trans hA' hnx
                        refine ⟨?_, evAny_ok hE hc hn hHc f _ st'' _ hjm.2 b2 (Nat.le_trans hnx b1) hjm.1 ρ0 ρ' s' hf Q i _ hA2 hk' hg' hgc hQ hq⟩
                        rw [← hl_agree hA2 hHc]; exact (subH_ok hjm.1).append_right _
                      · cases hjm
/-- Which blocks a place in the text turns, as far as the text tells. -/
def rootN (t : Tr) (l : List Oper) : Nat → Operand → Option (Option Nat)
  | 0, _ => none
  | f + 1, .tmp i => match l.find? (fun o => match o.dst with | some d => Nat.beq d i | none => false) with
    | none => (match t.at i with
      | some (.ptr k _) => some (some k)
      | some (.sli k _ _ _ _) => some (some k)
      | _ => some none)
    | some o => match o.op with
      | .move x => rootN t l f x
      | .assign x => rootN t l f x
      | .nilCheck x => rootN t l f x
      | .fieldAddr _ x _ => rootN t l f x
      | .indexAddr _ x _ => rootN t l f x
      | .slice _ x _ _ _ => rootN t l f x
      | .alloc _ => some none
      | .box _ _ => some none
      | .buildSlice _ _ _ => some none
      | _ => none
  | _ + 1, _ => some none
def rootsN (t : Tr) (l : List Oper) : List Oper → Option (List Nat)
  | [] => some []
  | o :: r => match (match o.op with
      | .store _ x _ => rootN t l 12 x
      | .call ⟨.builtin .append, ⟨[x, _]⟩, _⟩ => rootN t l 12 x
      | _ => some none), rootsN t l r with
    | some (some k), some ks => some (k :: ks)
    | some none, some ks => some ks
    | _, _ => none
def hcOf (E : Ev) (call : FCall) (n : Nat) (ops : Array Oper) (st : ES) : AH :=
  match rootsN st.t ops.toList ops.toList with
  | some [] => st.H
  | some ks => AHminus ks st.H
  | none => match evOps E call n (ops.toList.map (told ops)) st with
    | some G => AHminus (modN G.t ops.toList) st.H
    | none => []
theorem hcOf_mem {E : Ev} {call : FCall} {n : Nat} {ops : Array Oper} {st : ES} {k : Nat} {b : Bk} (h : (k, b) ∈ hcOf E call n ops st) : (k, b) ∈ st.H := by
  unfold hcOf at h
  split at h
  · exact h
  · exact minus_mem h
  · split at h
    · exact minus_mem h
    · cases h
def drE (E : Ev) : FDraw := fun call n ops st =>
  bif subH (hcOf E call n ops st) st.H then match evFst E call n ops (hcOf E call n ops st) st.nx ops.size (Array.replicate ops.size false) st [] with
    | some (G, _) => some G
    | none => none
  else none
theorem drE_ok {P : Program} {w0 : World} {E : Ev} (hm : P.follows .mixedOrders = true) (hE : EvOk P w0 E) : SDraw P w0 E (drE E) := by
  intro call hc n id ops st st' hn h ok
  unfold drE at h
  cases hb : subH (hcOf E call n ops st) st.H with
  | false => rw [hb] at h; cases h
  | true =>
    rw [hb] at h; simp only [cond_true] at h
    split at h
    · rename_i G lg hG
      simp only [Option.some.injEq] at h; subst h
      have hHc : HBd st.nx (hcOf E call n ops st) := fun k b hm => ok.H k b (hcOf_mem hm)
      obtain ⟨e1, e2⟩ := evFst_ok hE hc hn hHc _ _ _ _ _ _ hG ok (Nat.le_refl _) hb
      refine ⟨e1, fun ρ s hf Q hQ hk hg hq => ?_⟩
      have hgc : Gr ρ (hcOf E call n ops st) := fun k b z hm hz => hg k b z (hcOf_mem hm) hz
      have hAD := e2 ρ ρ s hf Q 0 [] (Agree.refl _ _) hk hg hgc (fun c s s' h => hQ c s s' h) hq
      exact fun D tm W hkn hi => wp_region_any hm (AnyI.sound _ _ _ _ _ (hAD D tm hkn) hi.drew)
    · cases h
end
end Go.Proofs.YtpmjbobgglgnaaaGreatDoor
