/- TendAlone: a node that is alone in its ring, whatever it holds and whatever the clock's step: the call returns true, and both arguments read afterwards as they read before. Condition: the two package variables of the text library's tables hold what the row lists. -/
import Derived.Test.YtlidbfnamhgnlaaGreatDoorCards
import Derived.Test.YtlidbfnamhgnlaaGreatDoorTie
import Derived.WalkKit
import Derived.ProofKit
import Derived.OpenShut
import Derived.Deep.DeepHandedRow
import Derived.Lib.LaidTab
import Derived.Test.YtlidbfnamhgnlaaGreatDoorNdFit
import Derived.Test.YtlidbfnamhgnlaaGreatDoorNdI
namespace Go.Proofs.YtlidbfnamhgnlaaGreatDoor.tendAlone
open Go.ChangeShapes Go.WideShapes Go.ChangeAt Go.RowKit

theorem own : ownKnob Tryz.prog.godebug = none := by kernel_rfl

theorem params_ok : ∀ t ∈ Tryz.f16.params.toList, Tryz.prog.readableRec t = true ∧ t < Tryz.prog.types.size := by
  have h : Tryz.f16.params.toList.all (fun t => Tryz.prog.readableRec t && decide (t < Tryz.prog.types.size)) = true := by kernel_rfl
  intro t ht
  simpa using List.all_eq_true.1 h t ht

set_option maxRecDepth 100000 in
/-- What the row asks, for every argument and every world. -/
theorem contract (H : Type) (enc : TypeId × Value → H) (W : World) (base : Nat) (args : Array Value) (ds gs : List (DataW H)) (before : List MemPlace)
    (hval : ∀ (j : Nat) t v, Tryz.f16.params[j]? = some t → args[j]? = some v → Value.okWide Tryz.prog W .any base t v)
    (hW : DataW.Whole enc Tryz.prog Tryz.f16.params.toList Rows.tendAloneSpec.vars false W args.toList ds gs before) :
    Calls Tryz.prog 16 args W fun e W' => ∃ v, e = .returned v ∧ Rows.tendAloneSpec.post enc Tryz.prog Tryz.f16 false true false false W args v W' := by
  have hW' := hW
  obtain ⟨p, q, hA0, hV, rfl, hfz, hnd⟩ := hW
  have hA : DataW.TrodAll enc Tryz.prog W 0 (fun _ => true) true Tryz.f16.params.toList args.toList ds p := hA0
  rw [Tryz.params16] at hA hval
  obtain ⟨v0, vs0, d0, ds0, p0, q0, hargs, rfl, rfl, h0, r0⟩ := trodAll_cons hA
  obtain ⟨v1, vs1, d1, ds1, p1, q1, rfl, rfl, rfl, h1, r1⟩ := trodAll_cons r0
  obtain ⟨rfl, rfl, rfl⟩ := trodAll_nil r1
  obtain rfl : args = #[v0, v1] := by cases args; simp_all
  obtain ⟨rfl, rfl⟩ := trodVars_none hV
  have hv1 := hval 1 5 v1 (by simp) (by simp)
  obtain ⟨t, rfl, rfl, rfl, hwf⟩ := open_int Tryz.underlying5 hv1 h1
  obtain ⟨fuel, hf⟩ := h0
  obtain ⟨xs, hx, hfit, hlen⟩ := Ev.open_fit (γ := Ev.γ0) (g := Ev.st0.gens) (fun _ => rfl) Ev.Nd.sorts_ok fuel 34 v0.cells.toList _ (by simp [Ev.Nd.sorts]) hf
  obtain ⟨n, rfl⟩ := Ev.Nd.fitNode hfit
  have ht : 0 ≤ t ∧ t < 256 := by
    simp only [Lit.wf, Bool.and_eq_true, decide_eq_true_eq] at hwf
    have h1 : IntKind.u8.min = 0 := by decide
    have h2 : IntKind.u8.max = 255 := by decide
    omega
  have hcells : v0 = .agg v0.cells := by
    cases v0 with
    | agg cs => rfl
    | _ => exact absurd hlen (by rw [show Tryz.prog.cellsOf 34 = 14 by kernel_rfl]; simp [Value.cells])
  refine Ev.said_of_call (tb := 4) (by kernel_rfl) params_ok rfl (by kernel_rfl) Tryz.underlying4 hW' ⟨rfl, rfl, rfl⟩ (Ev.Nd.alone_ok n t ht.1 ht.2 Ev.st0) ?_
  refine .cons ?_ (.cons (.int _ _) .nil)
  have := Ev.all2_relV_agg hx
  rw [hcells]
  exact this

end Go.Proofs.YtlidbfnamhgnlaaGreatDoor.tendAlone
