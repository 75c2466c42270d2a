/- Closed calls that the kernel carries out: operators. -/
import Derived.Test.YtpmjbobgglgnaaaGreatDoorE4
import Derived.DeepKeys
import Derived.Laws.Cover3
import Derived.Laws.Small
namespace Go.Proofs.YtpmjbobgglgnaaaGreatDoor
noncomputable section
open Go.RowKit
set_option linter.unusedVariables false
set_option linter.unusedSimpArgs false
def ikN (k : IntKind) : Nat := k.ctorIdx
def ikEq (k l : IntKind) : Bool := Nat.beq (ikN k) (ikN l)
theorem ikEq_iff {k l : IntKind} : ikEq k l = true ↔ k = l := by
  constructor
  · intro h
    cases k <;> cases l <;> first | rfl | (exact absurd h (by decide))
  · rintro rfl
    exact Nat.beq_refl _

def binI (op : BinOp) (k : IntKind) (a b : Int) : Option AV :=
  match op with
  | .add => some (.int k (k.wrap (a + b)))
  | .sub => some (.int k (k.wrap (a - b)))
  | .mul => some (.int k (k.wrap (a * b)))
  | .eql => some (.bool (a == b))
  | .neq => some (.bool (a != b))
  | .lss => some (.bool (a < b))
  | .leq => some (.bool (a ≤ b))
  | .gtr => some (.bool (a > b))
  | .geq => some (.bool (a ≥ b))
  | .and => some (.int k (k.wrap (BitVec.ofInt k.bits a &&& BitVec.ofInt k.bits b).toNat))
  | .or => some (.int k (k.wrap (BitVec.ofInt k.bits a ||| BitVec.ofInt k.bits b).toNat))
  | .xor => some (.int k (k.wrap (BitVec.ofInt k.bits a ^^^ BitVec.ofInt k.bits b).toNat))
  | .andNot => some (.int k (k.wrap (BitVec.ofInt k.bits a &&& ~~~BitVec.ofInt k.bits b).toNat))
  | .quo => bif (b == 0) then none else some (.int k (k.wrap (a.tdiv b)))
  | .rem => bif (b == 0) then none else some (.int k (a.tmod b))
  | _ => none
def binSh (op : BinOp) (k : IntKind) (a b : Int) : Option AV :=
  bif decide (b < 0) then none else match op with
  | .shl => some (.int k (k.wrap (a * 2 ^ (min b.toNat k.bits))))
  | .shr => some (.int k (a.fdiv (2 ^ (min b.toNat k.bits))))
  | _ => none
/-- The types of structs and arrays that are compared. -/
def eqTs : List Nat := [55, 121, 32, 37, 141, 299]
theorem eqTs_all : eqTs.all (fun t => Tryz.prog.keyTypeAt 6 t && !Tryz.prog.eqGuardType Tryz.prog.depth t) = true := by decide +kernel
def ρ0 : Rho := fun _ => ⟨0, 0, [], none⟩
def litEq : Lit → Lit → Bool
  | .bool a, .bool b => a == b
  | .int k a, .int l b => ikEq k l && (a == b)
  | .float k a, .float l b => decide (k = l) && Nat.beq a b
  | .string a, .string b => a == b
  | .nil, .nil => true
  | _, _ => false
theorem litEq_iff (a b : Lit) : litEq a b = true ↔ a = b := by
  cases a <;> cases b <;> simp [litEq, ikEq_iff]
def litsEq : List Lit → List Lit → Bool
  | [], [] => true
  | a :: as', b :: bs => litEq a b && litsEq as' bs
  | _, _ => false
theorem litsEq_iff : ∀ (a b : List Lit), litsEq a b = true ↔ a = b
  | [], [] => by simp [litsEq]
  | [], _ :: _ => by simp [litsEq]
  | _ :: _, [] => by simp [litsEq]
  | a :: l, b :: m => by simp [litsEq, litEq_iff, litsEq_iff l m]
def eqAgg (P : Program) (t : TypeId) (xs ys : List AV) : Option Bool :=
  bif eqTs.contains t && bdL 0 xs && bdL 0 ys && Value.formed P t (.agg (shL ρ0 xs).toArray) && Value.formed P t (.agg (shL ρ0 ys).toArray) then
    match P.keyLits 6 t (shL ρ0 xs), P.keyLits 6 t (shL ρ0 ys) with
    | some lx, some ly => some (litsEq lx ly)
    | _, _ => none
  else none
theorem shL_0 (ρ : Rho) {xs : List AV} (h : bdL 0 xs = true) : shL ρ xs = shL ρ0 xs := shL_agree (c := 0) (ρ := ρ0) (ρ' := ρ) (fun k hk => absurd hk (Nat.not_lt_zero k)) xs h
theorem maxD : 9994 + 6 = Op.maxDepth := by decide +kernel
theorem eqAgg_ok {t : TypeId} {xs ys : List AV} {b : Bool} (h : eqAgg Tryz.prog t xs ys = some b) (ρ : Rho) (W : World) (x y : Operand) (op : BinOp) (hop : op = .eql ∨ op = .neq) :
    (eqGuard op t x y (.agg (shL ρ xs).toArray) (.agg (shL ρ ys).toArray)).run Tryz.prog W = .ok () W ∧ (Op.equal t (.agg (shL ρ xs).toArray) (.agg (shL ρ ys).toArray)).run Tryz.prog W = .ok b W := by
  unfold eqAgg at h
  cases hc : (eqTs.contains t && bdL 0 xs && bdL 0 ys && Value.formed Tryz.prog t (.agg (shL ρ0 xs).toArray) && Value.formed Tryz.prog t (.agg (shL ρ0 ys).toArray)) with
  | false => rw [hc] at h; cases h
  | true =>
    rw [hc] at h
    simp only [cond_true] at h
    simp only [Bool.and_eq_true] at hc
    obtain ⟨⟨⟨⟨h1, h2⟩, h3⟩, h4⟩, h5⟩ := hc
    have ht := List.all_eq_true.1 eqTs_all t (by simpa using h1)
    simp only [Bool.and_eq_true, Bool.not_eq_true'] at ht
    rw [shL_0 ρ h2, shL_0 ρ h3]
    split at h
    · rename_i lx ly hx hy
      simp only [Option.some.injEq] at h
      refine ⟨?_, ?_⟩
      · rcases hop with rfl | rfl
        all_goals
          simp only [eqGuard, Bool.not_true, Bool.false_eq_true, if_false, Sem.run_bind, run_program, Result.andThen_ok, ht.2, Bool.not_false, if_true]
          simp
      · have ea : EqAt Tryz.prog Op.maxDepth t := maxD ▸ run_equalIn_deep 9994 6 t ht.1
        obtain ⟨r, hr, hiff⟩ := ea W 6 6 _ _ lx ly h4 h5 (by simpa [Value.cells] using hx) (by simpa [Value.cells] using hy)
        have er : r = litsEq lx ly := by rw [Bool.eq_iff_iff, hiff, litsEq_iff]
        rw [Op.equal, hr, ← h, er]
    · cases h
theorem str_t {t : TypeId} (h : ([9, 10, 11] : List Nat).contains t = true) : True := trivial
/-- Pointer types, of which nil is compared. -/
def binV (P : Program) (op : BinOp) (t : TypeId) (a b : AV) : Option AV :=
  match a, b with
  | .int k x, .int l y => match op with
    | .shl => binSh .shl k x y
    | .shr => binSh .shr k x y
    | op => bif ikEq k l then binI op k x y else none
  | .str x, .str y => match op with
    | .eql => some (.bool (x == y))
    | .neq => some (.bool !(x == y))
    | .add => bif Nat.ble (x.length + y.length) 9223372036854775807 then some (.str (x ++ y)) else none
    | _ => none
  | .bool x, .bool y => bif Nat.beq t 4 then (match op with
    | .eql => some (.bool (x == y))
    | .neq => some (.bool !(x == y))
    | _ => none) else none
  | .agg xs, .agg ys => match op with
    | .eql => (eqAgg P t xs ys).map .bool
    | .neq => (eqAgg P t xs ys).map fun b => .bool !b
    | _ => none
  | .nils, .nils => bif (slT.at t).isSome then (match op with
    | .eql => some (.bool true)
    | .neq => some (.bool false)
    | _ => none) else none
  | .sli _ _ _ _ _, .nils => bif (slT.at t).isSome then (match op with
    | .eql => some (.bool false)
    | .neq => some (.bool true)
    | _ => none) else none
  | _, _ => none
theorem bool_all : ([4] : List Nat).all (fun t => match Tryz.prog.underlying t with | some .bool => true | _ => false) = true := by decide +kernel
theorem bool_ty {t : TypeId} (h : Nat.beq t 4 = true) : Tryz.prog.underlying t = some .bool := by
  have hm : t ∈ ([4] : List Nat) := by
    rw [Nat.beq_eq] at h
    simpa using h
  have := List.all_eq_true.1 bool_all t hm
  split at this
  · rename_i hu; exact hu
  · cases this
section
variable {w0 : World} {n : Nat} {t : Tr} {H : AH} {ρ : Rho} {s : Sl} {hf : List Bx} {o : Option Tmp} {g : Option (Option Tmp × Bool)} {ty tt tu : TypeId} {x y : Operand} {v : AV} {op : BinOp}
theorem binI_ok {k : IntKind} {a b : Int} (h : binI op k a b = some v) (ρ : Rho) (W : World) : (binOp op tt (.int k a) (.int k b)).run Tryz.prog W = .ok (sh ρ v) W := by
  cases op <;> simp only [binI, Option.some.injEq, reduceCtorEq] at h
  case quo =>
    cases hb : (b == 0) with
    | true => rw [hb] at h; cases h
    | false =>
      rw [hb] at h; simp only [cond_false, Option.some.injEq] at h; subst h
      have : ¬ b = 0 := by simpa using hb
      simp [binOp, Op.intDiv, this, sh]
  case rem =>
    cases hb : (b == 0) with
    | true => rw [hb] at h; cases h
    | false =>
      rw [hb] at h; simp only [cond_false, Option.some.injEq] at h; subst h
      have : ¬ b = 0 := by simpa using hb
      simp [binOp, Op.intDiv, this, sh]
  all_goals subst h; simp [binOp, Op.intArith, Op.intCmp, Op.intBits, sh] <;> rfl
theorem binSh_ok {k l : IntKind} {a b : Int} (h : binSh op k a b = some v) (ρ : Rho) (W : World) : (binOp op tt (.int k a) (.int l b)).run Tryz.prog W = .ok (sh ρ v) W := by
  unfold binSh at h
  cases hb : decide (b < 0) with
  | true => rw [hb] at h; cases h
  | false =>
    rw [hb] at h; simp only [cond_false] at h
    have h0 : ¬ b < 0 := by simpa using hb
    cases op <;> simp only [Option.some.injEq, reduceCtorEq] at h
    all_goals subst h; simp [binOp, Op.shift, h0, sh]
def yBin (P : Program) (t : Tr) (op : BinOp) (tt : TypeId) (x y : Operand) : Option AV :=
  match evA t x, evA t y with
  | some a, some b => binV P op tt a b
  | _, _ => none
theorem guard_free {a b : Value} (h : ∀ xs ys, ¬ (a = .agg xs ∧ b = .agg ys)) (h2 : a ≠ .nilIface) (W : World) : (eqGuard op tt x y a b).run Tryz.prog W = .ok () W := by
  cases op
  case eql => cases a <;> cases b <;> first | exact absurd rfl h2 | exact absurd ⟨rfl, rfl⟩ (h _ _) | (simp [eqGuard]; done)
  case neq => cases a <;> cases b <;> first | exact absurd rfl h2 | exact absurd ⟨rfl, rfl⟩ (h _ _) | (simp [eqGuard]; done)
  all_goals simp [eqGuard]
theorem binV_ok {a b : AV} (h : binV Tryz.prog op tt a b = some v) (ρ : Rho) (W : World) :
    (do eqGuard op tt x y (sh ρ a) (sh ρ b); binOp op tt (sh ρ a) (sh ρ b) : Sem Value).run Tryz.prog W = .ok (sh ρ v) W := by
  unfold binV at h
  split at h
  · rename_i k m l q
    simp only [sh]
    rw [Sem.run_bind, guard_free (by rintro xs ys ⟨e, _⟩; cases e) (by simp)]
    simp only [Result.andThen_ok]
    split at h
    · exact binSh_ok h ρ W
    · exact binSh_ok h ρ W
    · cases hb : ikEq k l with
      | false => rw [hb] at h; cases h
      | true =>
        rw [hb] at h
        have : k = l := ikEq_iff.1 hb
        subst this
        exact binI_ok h ρ W
  · rename_i xs ys
    simp only [sh]
    rw [Sem.run_bind, guard_free (by rintro xs ys ⟨e, _⟩; cases e) (by simp)]
    simp only [Result.andThen_ok]
    split at h
    · simp only [Option.some.injEq] at h; subst h; simp [binOp, Op.stringOp, sh]
    · simp only [Option.some.injEq] at h; subst h; simp [binOp, Op.stringOp, sh]
    · cases hb : Nat.ble (xs.length + ys.length) 9223372036854775807 with
      | false => rw [hb] at h; cases h
      | true =>
        rw [hb] at h; simp only [cond_true, Option.some.injEq] at h; subst h
        rw [Nat.ble_eq] at hb
        have h1 : ¬ (((xs.length + ys.length : Nat) : Int) > IntKind.i64.max) := by
          have : IntKind.i64.max = 9223372036854775807 := by decide
          omega
        have e1 : ∀ l : List UInt8, (⟨⟨l⟩⟩ : ByteArray) = ofL l := fun _ => rfl
        simp only [binOp, Op.stringOp, e1, ofL_size, h1, if_false, ofL_append, sh]
        rfl
    · cases h
  · rename_i xs ys
    simp only [sh]
    rw [Sem.run_bind, guard_free (by rintro xs ys ⟨e, _⟩; cases e) (by simp)]
    simp only [Result.andThen_ok]
    cases hb : Nat.beq tt 4 with
    | false => rw [hb] at h; cases h
    | true =>
      rw [hb] at h; simp only [cond_true] at h
      split at h
      · simp only [Option.some.injEq] at h; subst h
        simp [binOp, Sem.run_bind, run_equal_bool W tt xs ys (bool_ty hb), sh]
      · simp only [Option.some.injEq] at h; subst h
        simp [binOp, Sem.run_bind, run_equal_bool W tt xs ys (bool_ty hb), sh]
      · cases h
  · rename_i xs ys
    split at h
    · simp only [Option.map_eq_some_iff] at h
      obtain ⟨b, hb, rfl⟩ := h
      obtain ⟨e1, e2⟩ := eqAgg_ok hb ρ W x y .eql (.inl rfl)
      simp only [sh]
      rw [Sem.run_bind, e1]
      simp [binOp, Sem.run_bind, e2]
    · simp only [Option.map_eq_some_iff] at h
      obtain ⟨b, hb, rfl⟩ := h
      obtain ⟨e1, e2⟩ := eqAgg_ok hb ρ W x y .neq (.inr rfl)
      simp only [sh]
      rw [Sem.run_bind, e1]
      simp [binOp, Sem.run_bind, e2]
    · cases h
  · simp only [sh]
    rw [Sem.run_bind, guard_free (by rintro xs ys ⟨e, _⟩; cases e) (by simp)]
    simp only [Result.andThen_ok]
    cases hs : slT.at tt with
    | none => rw [hs] at h; cases h
    | some k =>
      rw [hs] at h; simp only [Option.isSome_some, cond_true] at h
      rw [slT_ok] at hs
      obtain ⟨e, hu, _, _⟩ := sl_ty hs
      split at h
      · simp only [Option.some.injEq] at h; subst h
        simp [binOp, Sem.run_bind, run_equal_slice_nil W tt e none 0 0 hu, sh]
      · simp only [Option.some.injEq] at h; subst h
        simp [binOp, Sem.run_bind, run_equal_slice_nil W tt e none 0 0 hu, sh]
      · cases h
  · simp only [sh]
    rw [Sem.run_bind, guard_free (by rintro xs ys ⟨e, _⟩; cases e) (by simp)]
    simp only [Result.andThen_ok]
    cases hs : slT.at tt with
    | none => rw [hs] at h; cases h
    | some k =>
      rw [hs] at h; simp only [Option.isSome_some, cond_true] at h
      rw [slT_ok] at hs
      obtain ⟨e, hu, _, _⟩ := sl_ty hs
      split at h
      · simp only [Option.some.injEq] at h; subst h
        simp [binOp, Sem.run_bind, run_equal_slice_nil W tt e _ _ _ hu, sh]
      · simp only [Option.some.injEq] at h; subst h
        simp [binOp, Sem.run_bind, run_equal_slice_nil W tt e _ _ _ hu, sh]
      · cases h
  · cases h
theorem yBin_ok {yt : TypeId} (h : yBin Tryz.prog t op tt x y = some v) : YS w0 t H (.binOp op tt x y yt) ty v := by
  intro ρ n s hf o g hk hg hw
  unfold yBin at h
  split at h
  · rename_i a b hx hy
    refine y_yield hw (fun tm W hkn hi => ?_)
    have := binV_ok (x := x) (y := y) h ρ W
    show (do let r ← (do eqGuard op tt x y (Act.eval ⟨tm, []⟩ x) (Act.eval ⟨tm, []⟩ y); binOp op tt (Act.eval ⟨tm, []⟩ x) (Act.eval ⟨tm, []⟩ y) : Sem Value); pure (Next.value r) : Sem Next).run Tryz.prog W = _
    rw [ev_ok (ds := []) hkn (evA_ok hk hx), ev_ok (ds := []) hkn (evA_ok hk hy), Sem.run_bind, this]
    rfl
  · cases h
end
end
end Go.Proofs.YtpmjbobgglgnaaaGreatDoor
