/- TendAlone, the card: a node that is alone in its ring, whatever it holds and whatever the clock's step: the call returns true, and both arguments read afterwards as they read before. Condition: the two package variables that the row lists hold what it lists. -/
import Derived.Test.YtlidbfnamhgnlaaGreatDoorNdZ
import Derived.Test.YtlidbfnamhgnlaaGreatDoorNdZw
import Derived.Test.YtlidbfnamhgnlaaGreatDoorNdZf
namespace Go.Proofs.YtlidbfnamhgnlaaGreatDoor.tendAlone
open Go.ChangeShapes Go.WideShapes Go.ChangeAt Go.RowKit

set_option maxRecDepth 100000 in
set_option maxHeartbeats 0 in
theorem said : Rows.TendAloneSaid :=
  OpenClaim.holds_of_cond 16 Tryz.f16 rfl rfl rfl rfl rfl rfl rfl ⟨rfl, rfl, rfl, rfl, rfl⟩ rfl rfl rfl rfl rfl named16 Tryz.func16 closed
    inst16 wrap16
    (fun os started H enc _ F => by rw [OpenClaim.pre_eq_preRow]; exact lifted os started H enc F)

set_option maxHeartbeats 0 in
theorem looks16 : false = Tryz.pinned.checked.prog.looks [] := by kernel_rfl
theorem in34 : Tryz.prog.wantsStandIn 34 = false := by kernel_rfl
theorem in5 : Tryz.prog.wantsStandIn 5 = false := by kernel_rfl

set_option maxHeartbeats 0 in
theorem plain (f : FuncId) (fn : Func) (hf : Tryz.pinned.checked.prog.funcNamed "annulet/annuletlaw36.TendAlone" = some f) (hfn : Tryz.pinned.checked.prog.funcs[f]? = some fn) :
    false = Tryz.pinned.checked.prog.looks [] ∧ ∀ (j : Nat) t, fn.params[j]? = some t → Tryz.pinned.checked.prog.wantsStandIn t = false := by
  obtain rfl : f = 16 := Option.some.inj (named16.symm.trans hf) |>.symm
  obtain rfl : fn = Tryz.f16 := (Option.some.inj (Tryz.func16.symm.trans hfn)).symm
  refine ⟨looks16, fun j t ht => ?_⟩
  rw [Tryz.params16] at ht
  have ht' : t = 34 ∨ t = 5 := by simpa using Array.mem_of_getElem? ht
  rcases ht' with rfl | rfl
  · exact in34
  · exact in5

end Go.Proofs.YtlidbfnamhgnlaaGreatDoor.tendAlone

namespace Go.Proofs.YtlidbfnamhgnlaaGreatDoor
open tendAlone

set_option maxHeartbeats 0 in
/-- The card. -/
theorem tendAlone_holds : Rows.TendAloneCardSaid :=
  Claim7.holds_tied_plain_at .later [] _ _ _ _ said (fun _ h => by cases h) (by as_aux_lemma => kernel_rfl) (fun _ h => by cases h) tendAlone_row_tie rfl ⟨rfl, rfl⟩ (by as_aux_lemma => kernel_rfl) rfl plain (by as_aux_lemma => kernel_rfl)

#print axioms tendAlone_holds
end Go.Proofs.YtlidbfnamhgnlaaGreatDoor
