/- Closed facts of the row of BookSame. -/
import Derived.Test.YtpmjbobgglgnaaaGreatDoorCards
import Derived.JoinedOf
import Derived.Stop.Joined
namespace Go.Proofs.YtpmjbobgglgnaaaGreatDoor
theorem andI {a b : Bool} (h : a = true) (k : b = true) : (a && b) = true := by rw [h, k]; rfl
set_option maxHeartbeats 40000000 in
set_option maxRecDepth 100000 in
theorem same_facts : joinedFacts Tryz.prog 6 Tryz.f6 Rows.bookSameSpec Rows.bookSameRow = true := by
  unfold joinedFacts
  repeat' (with_reducible apply andI)
  all_goals (as_aux_lemma => kernel_rfl)
end Go.Proofs.YtpmjbobgglgnaaaGreatDoor
