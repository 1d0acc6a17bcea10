/- TendAlone: the closed facts of the row. -/
import Derived.Test.YtlidbfnamhgnlaaGreatDoorCards
import Derived.Test.YtlidbfnamhgnlaaGreatDoorTie
import Derived.WalkKit
import Derived.ProofKit
import Derived.OpenShut
import Derived.Deep.DeepHandedRow
import Derived.Lib.LaidTab
namespace Go.Proofs.YtlidbfnamhgnlaaGreatDoor.tendAlone
open Go.ChangeShapes Go.WideShapes Go.ChangeAt Go.RowKit

theorem and2 {a b : Bool} (h : a = true) (k : b = true) : (a && b) = true := by rw [h, k]; rfl

set_option maxRecDepth 100000 in
set_option maxHeartbeats 0 in
theorem closed : joinedFacts Tryz.prog 16 Tryz.f16 (OpenSpec.ofChange Rows.tendAloneSpec).bare Rows.tendAloneRow = true := by
  unfold joinedFacts
  iterate 31 refine and2 ?_ ?_
  all_goals as_aux_lemma => kernel_rfl

set_option maxHeartbeats 0 in
theorem named16 : Tryz.prog.funcNamed "annulet/annuletlaw36.TendAlone" = some 16 := by kernel_rfl
set_option maxRecDepth 100000 in
set_option maxHeartbeats 0 in
theorem inst16 : Tryz.f16.isInstance Tryz.prog Rows.tendAloneRow.origin Rows.tendAloneRow.targs := of_decide_eq_true (by kernel_rfl)
set_option maxRecDepth 100000 in
set_option maxHeartbeats 0 in
theorem wrap16 : Tryz.f16.isWrapper Tryz.prog Rows.tendAloneRow.wrapper Rows.tendAloneRow.mainSum := by
  unfold Func.isWrapper; first | (rw [if_pos (by decide +kernel)]; kernel_rfl) | (rw [if_neg (by decide +kernel)]; exact ⟨rfl, rfl⟩)

end Go.Proofs.YtlidbfnamhgnlaaGreatDoor.tendAlone
