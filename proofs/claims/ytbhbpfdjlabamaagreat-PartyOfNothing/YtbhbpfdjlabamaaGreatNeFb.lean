/-
  The other facts of the row of PartyOfNothing, each by itself.
-/
import Derived.Test.YtbhbpfdjlabamaaGreatRows
import Derived.WalkKit
import Derived.ProofKit
set_option linter.all false
set_option linter.unusedVariables false
set_option linter.unusedSimpArgs false
namespace Go.Proofs.YtbhbpfdjlabamaaGreat
open Go
theorem band {a b : Bool} (h : a = true) (k : b = true) : (a && b) = true := by rw [h, k]; rfl
set_option maxRecDepth 100000
set_option maxHeartbeats 100000000
theorem closed5 (h1 : Tryz.prog.mayEnter = true) (h2 : (Rows.partyOfNothingRow.lifted == Tryz.prog.liftsFinal) = true) (h3 : (Tryz.prog.make == some Rows.partyOfNothingRow.make) = true) :
    joinedFacts Tryz.prog 5 Tryz.f5 Rows.partyOfNothingSpec Rows.partyOfNothingRow = true := by
  unfold joinedFacts
  repeat' (with_reducible refine band ?_ ?_)
  all_goals first | (with_reducible exact h1) | (with_reducible exact h2) | (with_reducible exact h3) | (clear h1 h2 h3; as_aux_lemma => kernel_rfl)
end Go.Proofs.YtbhbpfdjlabamaaGreat
