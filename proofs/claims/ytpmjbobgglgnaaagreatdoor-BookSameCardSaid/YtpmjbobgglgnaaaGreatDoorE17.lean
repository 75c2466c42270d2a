/- The kernel's run of law 31's awake. -/
import Derived.Test.YtpmjbobgglgnaaaGreatDoorE16
namespace Go.Proofs.YtpmjbobgglgnaaaGreatDoor
noncomputable section
open Go.RowKit
set_option linter.unusedVariables false
set_option linter.unusedSimpArgs false
/-- What the inputs mean. -/
def ofTab : List (List UInt8 × AV) := [([53], ofC 50000), ([49, 48], ofC 100000), ([50, 48], ofC 200000), ([55], ofC 70000), ([61, 65, 49, 43, 66, 49], ofF 118 3), ([61, 68, 83, 85, 77, 40, 66, 49, 58, 66, 51, 41], ofF 151 2), ([61, 73, 70, 69, 82, 82, 79, 82, 40, 65, 51, 44, 48, 41, 43, 49], ofF 295 5)]
def ofLk : List (List UInt8 × AV) → List UInt8 → Option AV
  | [], _ => none
  | (s, v) :: l, t => bif s == t then some v else ofLk l t
theorem ofLk_mem {s : List UInt8} {v : AV} : ∀ {l : List (List UInt8 × AV)}, ofLk l s = some v → (s, v) ∈ l
  | (t, u) :: l, h => by
    simp only [ofLk] at h
    cases hb : (t == s) with
    | true => rw [hb] at h; simp only [cond_true, Option.some.injEq] at h; rw [← eq_of_beq hb, ← h]; simp
    | false => rw [hb] at h; exact List.mem_cons_of_mem _ (ofLk_mem h)
def X3 (f : Nat) (args : List AV) : Option (AV × Nat) := match f, args with
  | 106, [.str s] => match ofLk ofTab s with
    | some v => some (v, 300)
    | none => none
  | f, args => X2 f args
theorem ofTab_ok : ∀ p ∈ ofTab, isOkV p.2 (runE Tryz.prog X2 106 [.str p.1]) = true ∧ bd 300 p.2 = true := by
  intro p hp
  simp only [ofTab, List.mem_cons, List.not_mem_nil, or_false] at hp
  rcases hp with rfl | rfl | rfl | rfl | rfl | rfl | rfl
  · exact ⟨of5, rfl⟩
  · exact ⟨of10, rfl⟩
  · exact ⟨of20, rfl⟩
  · exact ⟨of7, rfl⟩
  · exact ⟨ofA, rfl⟩
  · exact ⟨ofD, rfl⟩
  · exact ⟨ofI, rfl⟩
theorem X3_ok {w0 : World} (hW : Words w0) (hL : LenOk w0) : XOk Tryz.prog w0 X3 := by
  intro f args v k h
  unfold X3 at h
  split at h
  · rename_i s
    split at h
    · rename_i u hu
      simp only [Option.some.injEq, Prod.mk.injEq] at h
      obtain ⟨rfl, rfl⟩ := h
      obtain ⟨h1, h2⟩ := ofTab_ok _ (ofLk_mem hu)
      exact ⟨h2, fun ρ h => ran h1 rfl hW (X2_ok hW hL) ρ h⟩
    · cases h
  · exact X2_ok hW hL _ _ _ _ h
theorem runAwake : isOkV (.bool true) (runE Tryz.prog X3 16 []) = true := by decide +kernel
/-- law 31's awake is true. -/
theorem awake31 {w0 : World} (hW : Words w0) (hL : LenOk w0) (h : List Bx) : Ct Tryz.prog 16 #[] w0 h (fun v h' => v = .bool true ∧ h' = h) := by
  have := ran runAwake rfl hW (X3_ok hW hL) ρ0 h
  refine ⟨this.1, fun W hi => (this.2 W hi).mono ?_⟩
  rintro e W' ⟨u, h', e1, e2, ⟨ρ', rfl⟩, e4⟩
  exact ⟨_, h', e1, e2, by simp [sh], e4⟩
end
end Go.Proofs.YtpmjbobgglgnaaaGreatDoor
