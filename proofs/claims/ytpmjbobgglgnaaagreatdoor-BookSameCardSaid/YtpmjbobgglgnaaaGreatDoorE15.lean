/- The kernel's runs: what the small example's inputs mean, but the longest. -/
import Derived.Test.YtpmjbobgglgnaaaGreatDoorE14
namespace Go.Proofs.YtpmjbobgglgnaaaGreatDoor
noncomputable section
open Go.RowKit Go.Lib
set_option linter.unusedVariables false
set_option linter.unusedSimpArgs false
def consts : List (List UInt8) := [[53], [49, 48], [50, 48], [55]]
theorem run272 : consts.all (fun s => isOkV (.int .i64 0) (runE Tryz.prog X1 272 [.agg [.int .u8 3, .int .i64 0, .str s]])) = true := by decide +kernel
theorem run227 : consts.all (fun s => isOkV (.agg [.int .u8 4, .int .i64 2, .str []]) (runE Tryz.prog X1 227 [.agg [.int .u8 3, .int .i64 0, .str s]])) = true := by decide +kernel
def X2 (f : Nat) (args : List AV) : Option (AV × Nat) := match f, args with
  | 181, [.agg [.int .u8 3, .int .i64 0, .str s]] => bif consts.any (fun c => s == c) then some (.agg [.int .u8 4, .int .i64 2, .str []], 0) else none
  | f, args => X1 f args
theorem X2_ok {w0 : World} (hW : Words w0) (hL : LenOk w0) : XOk Tryz.prog w0 X2 := by
  intro f args v k h
  unfold X2 at h
  split at h
  · rename_i s
    cases hb : consts.any (fun c => s == c) with
    | false => rw [hb] at h; cases h
    | true =>
      rw [hb] at h; simp only [cond_true, Option.some.injEq, Prod.mk.injEq] at h
      obtain ⟨rfl, rfl⟩ := h
      refine ⟨rfl, fun ρ h => ?_⟩
      have hs : s ∈ consts := by
        obtain ⟨c, hc, he⟩ := List.any_eq_true.1 hb
        rw [eq_of_beq he]; exact hc
      have r1 := fun h => ran (List.all_eq_true.1 run272 s hs) rfl hW (X1_ok hL) ρ0 h
      have r2 := fun h => ran (List.all_eq_true.1 run227 s hs) rfl hW (X1_ok hL) ρ0 h
      have ea : (shL ρ0 [.agg [.int .u8 3, .int .i64 0, .str s]]).toArray = #[.agg #[.int .u8 3, .int .i64 0, .string (ofL s)]] := by simp [shL, sh, ofL]
      have ea2 : (shL ρ [.agg [.int .u8 3, .int .i64 0, .str s]]).toArray = #[.agg #[.int .u8 3, .int .i64 0, .string (ofL s)]] := by simp [shL, sh, ofL]
      rw [ea] at r1 r2
      rw [ea2]
      have c1 : ∀ (h : List Bx), Ct Tryz.prog 272 #[.agg #[.int .u8 3, .int .i64 0, .string (ofL s)]] w0 h (fun v h' => v = .int .i64 0 ∧ h' = h) := fun h => by
        refine ⟨(r1 h).1, fun W hi => ((r1 h).2 W hi).mono ?_⟩
        rintro e W' ⟨u, h', e1, e2, ⟨ρ', rfl⟩, e4⟩
        exact ⟨_, h', e1, e2, by simp [sh], e4⟩
      have c2 : ∀ (h : List Bx), Ct Tryz.prog 227 #[.agg #[.int .u8 3, .int .i64 0, .string (ofL s)]] w0 h (fun v h' => v = .agg #[.int .u8 4, .int .i64 2, .string (ofL [])] ∧ h' = h) := fun h => by
        refine ⟨(r2 h).1, fun W hi => ((r2 h).2 W hi).mono ?_⟩
        rintro e W' ⟨u, h', e1, e2, ⟨ρ', rfl⟩, e4⟩
        exact ⟨_, h', e1, e2, by simp [sh, shL, ofL], e4⟩
      have := toBool181 w0 h 0 s 4 2 [] c1 c2
      refine ⟨this.1, fun W hi => (this.2 W hi).mono ?_⟩
      rintro e W' ⟨u, h', e1, e2, rfl, e4⟩
      exact ⟨_, h', e1, e2, ⟨ρ0, by simp [sh, shL, ofL]⟩, e4⟩
  · exact X1_ok hL _ _ _ _ h
def ofC (n : Int) : AV := .tup [.agg [.bool false, .int .u8 1, .int .i64 n, .str [], .nils], .int .i64 0, .int .i64 0]
def ofF (k len : Nat) : AV := .tup [.agg [.bool true, .int .u8 0, .int .i64 0, .str [], .sli k 0 len false 0], .int .i64 0, .int .i64 0]
theorem of5 : isOkV (ofC 50000) (runE Tryz.prog X2 106 [.str [53]]) = true := by decide +kernel
theorem of10 : isOkV (ofC 100000) (runE Tryz.prog X2 106 [.str [49, 48]]) = true := by decide +kernel
theorem of20 : isOkV (ofC 200000) (runE Tryz.prog X2 106 [.str [50, 48]]) = true := by decide +kernel
theorem of7 : isOkV (ofC 70000) (runE Tryz.prog X2 106 [.str [55]]) = true := by decide +kernel
theorem ofA : isOkV (ofF 118 3) (runE Tryz.prog X2 106 [.str [61, 65, 49, 43, 66, 49]]) = true := by decide +kernel
theorem ofD : isOkV (ofF 151 2) (runE Tryz.prog X2 106 [.str [61, 68, 83, 85, 77, 40, 66, 49, 58, 66, 51, 41]]) = true := by decide +kernel
end
end Go.Proofs.YtpmjbobgglgnaaaGreatDoor
